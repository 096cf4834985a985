/- norialaw02.PayloadPuts: any payload, of any type, is put, or not, points at what, is the same as another one, or not, as the chapter says. -/
import Derived.Test.YthlbgeonobicbaaDoorZe
namespace Go.Proofs.YthlbgeonobicbaaDoor
open Go Go.V Go.RowKit
set_option linter.unusedVariables false
set_option linter.unusedSimpArgs false

theorem refsP_len (K : Int) {P : PL} (h : P.ok) : (refsP K P).length ≤ 1000000000000 := by
  have h1 := h.rulesN
  have h2 := refs_foldl_len P.rules []
  have h3 := refsAdd_len [] (2, P.route)
  have h4 := refsAdd_len [(4, P.name)] (5, P.secret)
  simp only [List.length_nil, List.length_cons] at h2 h3 h4
  unfold refsP
  split
  · omega
  · split
    · omega
    · split
      · omega
      · simp
theorem putV_some (o : Option (List UInt8)) : ∃ x ok, putV o = .tuple #[S x, .bool ok] := by
  cases o with
  | none => exact ⟨[], false, rfl⟩
  | some s => exact ⟨s, true, rfl⟩
def IsPl (P : PL) (y : Value) (w : World) : Prop := ∃ rv av, y = PlV P rv av ∧ PlS w P rv av
theorem IsPl.keep {P : PL} {y : Value} {w w' : World} (h : IsPl P y w) (k : Keeps NoB w w') : IsPl P y w' := by
  obtain ⟨rv, av, e, h⟩ := h
  exact ⟨rv, av, e, h.kin k⟩
set_option maxRecDepth 100000 in
set_option maxHeartbeats 8000000 in
theorem payloadPuts_ca (m n : MD) (hm : m.ok) (hn : n.ok) (kind : Int) (rv av rv2 av2 : Value) {p q : Addr} (w : World) (hs : PlS w m.p rv av) (hs2 : PlS w n.p rv2 av2) (hg : Glo w p q) :
    Ca Tryd.prog 5 #[MdV m rv av, MdV n rv2 av2, .int .i64 kind] w fun v w' => v = .bool true ∧ Keeps NoB w w' := by
  have hr1 := slR_one hs.r
  have ha1 := slR_one hs.a
  refine ca_of_body (args := [MdV m rv av, MdV n rv2 av2, .int .i64 kind]) Tryd.func5 rfl (by kernel_rfl) ?_
  apply wc_seq
  apply wc_region
  refine wr_box (v := MdV m rv av) rfl rfl ?_
  refine wr_box (v := MdV n rv2 av2) rfl rfl ?_
  obtain ⟨w1, hw1⟩ : ∃ w1, w1 = (w.alloc (.cells (MdV m rv av).cells 28)).alloc (.cells (MdV n rv2 av2).cells 28) := ⟨_, rfl⟩
  have hk1 : Keeps NoB w w1 := by rw [hw1]; exact ((Keeps.refl NoB w).alloc _).alloc _
  obtain ⟨pb, hpb⟩ : ∃ pb, pb = (w.alloc (.cells (MdV m rv av).cells 28)).heap.size := ⟨_, rfl⟩
  have hB1 : w1.heap[pb]? = some (.cells (MdC n rv2 av2).toArray 28 (0, 0)) := by rw [hw1, hpb]; exact heap_alloc_same _ _
  obtain ⟨pa, hpa⟩ : ∃ pa, pa = w.heap.size := ⟨_, rfl⟩
  have hA1 : w1.heap[pa]? = some (.cells (MdC m rv av).toArray 28 (0, 0)) := by
    rw [hw1, hpa, heap_alloc_ne _ _ (by simp only [World.size_alloc]; omega)]; exact heap_alloc_same _ _
  rw [← hw1, ← hpb, ← hpa]
  clear hw1 hpa hpb
  (repeat first | (apply wr_assign; exact rfl; with_reducible (conv => enter [6, 3]; whnf)) | apply wr_end | apply wc_seq | apply wc_region)
  refine wr_call (vs := []) rfl (examples_ca (hg.keep hk1 (fun _ _ h => h))) rfl ?_
  rintro v w2 ⟨rfl, hk2⟩
  have hw2 := hk1.trans hk2
  (repeat first | (apply wr_move; exact rfl; with_reducible (conv => enter [6, 3]; whnf)) | (apply wr_assign; exact rfl; with_reducible (conv => enter [6, 3]; whnf)) | apply wr_end | apply wc_seq | apply wc_region | apply wc_skip | (apply wr_not; iterate 2 exact rfl) | (apply wc_false; exact rfl))
  refine wr_loadAll (cs := MdC m rv av) rfl rfl rfl (hk2.heap hA1 (fun h => h)) rfl ?_
  refine wr_call (vs := [MdV m rv av]) rfl (made_ca m hm rv av w2 (hs.kin hw2)) rfl ?_
  rintro v w3 ⟨rv', av', rfl, hs3, hk3⟩
  have hok := out_ok m hm
  generalize m.out.2 = P at hs3 hok ⊢
  generalize m.out.1 = K
  (repeat first | (apply wr_move; exact rfl; with_reducible (conv => enter [6, 3]; whnf)) | (apply wr_assign; exact rfl; with_reducible (conv => enter [6, 3]; whnf)) | (apply wr_alloc; exact rfl) | (apply wr_extract; (iterate 3 exact rfl); with_reducible (conv => enter [6, 3]; whnf)))
  refine wr_storeAll (cs := PlC P rv' av') rfl rfl rfl (PlC_one (slR_one hs3.r) (slR_one hs3.a)) (heap_alloc_same _ _) rfl rfl ?_
  obtain ⟨w4, hw4⟩ : ∃ w', w' = (w3.alloc (.cells (Value.agg PlZ.toArray).cells 26)).putObj w3.heap.size (.cells (PlC P rv' av').toArray 26 (0, 0)) := ⟨_, rfl⟩
  have kw4 : Keeps NoB w3 w4 := by rw [hw4]; exact ((Keeps.refl NoB w3).alloc _).put _ (fun h => by omega)
  have bw4 : w4.heap[w3.heap.size]? = some (.cells (PlC P rv' av').toArray 26 (0, 0)) := by rw [hw4]; exact World.putObj_heap_same (by simp)
  rw [← hw4]
  clear hw4
  obtain ⟨bp, ebp⟩ : ∃ b, b = w3.heap.size := ⟨_, rfl⟩
  rw [← ebp] at bw4 ⊢
  have hs4 := hs3.kin kw4
  have hw4 := hw2.trans (hk3.trans kw4)
  (repeat first | apply wr_end | apply wc_seq | apply wc_region)
  refine wr_loadAll (cs := MdC n rv2 av2) rfl rfl rfl ((hk2.trans (hk3.trans kw4)).heap hB1 (fun h => h)) rfl ?_
  refine wr_call (vs := [MdV n rv2 av2]) rfl (made_ca n hn rv2 av2 w4 (hs2.kin hw4)) rfl ?_
  rintro v w5 ⟨rq, aq, rfl, hq5, hk5⟩
  have hokQ := out_ok n hn
  generalize n.out.2 = Q at hq5 hokQ ⊢
  generalize n.out.1 = K2
  (repeat first | (apply wr_move; exact rfl; with_reducible (conv => enter [6, 3]; whnf)) | (apply wr_assign; exact rfl; with_reducible (conv => enter [6, 3]; whnf)) | (apply wr_alloc; exact rfl) | (apply wr_extract; (iterate 3 exact rfl); with_reducible (conv => enter [6, 3]; whnf)))
  refine wr_storeAll (cs := PlC Q rq aq) rfl rfl rfl (PlC_one (slR_one hq5.r) (slR_one hq5.a)) (heap_alloc_same _ _) rfl rfl ?_
  obtain ⟨w6, hw6⟩ : ∃ w', w' = (w5.alloc (.cells (Value.agg PlZ.toArray).cells 26)).putObj w5.heap.size (.cells (PlC Q rq aq).toArray 26 (0, 0)) := ⟨_, rfl⟩
  have kw6 : Keeps NoB w5 w6 := by rw [hw6]; exact ((Keeps.refl NoB w5).alloc _).put _ (fun h => by omega)
  have bw6 : w6.heap[w5.heap.size]? = some (.cells (PlC Q rq aq).toArray 26 (0, 0)) := by rw [hw6]; exact World.putObj_heap_same (by simp)
  rw [← hw6]
  clear hw6
  obtain ⟨bq, ebq⟩ : ∃ b, b = w5.heap.size := ⟨_, rfl⟩
  rw [← ebq] at bw6 ⊢
  have hq6 := hq5.kin kw6
  have hw6 := hw4.trans (hk5.trans kw6)
  have hs6 := hs4.kin (hk5.trans kw6)
  have bp6 := (hk5.trans kw6).heap bw4 (fun h => h)
  obtain ⟨px, pok, hpx⟩ := putV_some (putP K P)
  have n5 := hok.rulesN
  have n6 := hok.addrsN
  have n7 := hokQ.rulesN
  have n8 := hokQ.addrsN
  (repeat first | (apply wr_move; exact rfl; with_reducible (conv => enter [6, 3]; whnf)) | apply wr_end | apply wc_seq | apply wc_region)
  refine wr_loadAll (cs := PlC P rv' av') rfl rfl rfl bp6 rfl ?_
  refine wr_call (vs := [.int .i64 K, PlV P rv' av']) rfl (pPut_ca K P hok rv' av' w6 hs6) rfl ?_
  rintro v w7 ⟨rfl, hk7⟩
  rw [hpx]
  (repeat first | (apply wr_move; exact rfl; with_reducible (conv => enter [6, 3]; whnf)) | (apply wr_assign; exact rfl; with_reducible (conv => enter [6, 3]; whnf)) | apply wr_end | apply wc_seq | apply wc_region | (apply wr_extract; (iterate 3 exact rfl); with_reducible (conv => enter [6, 3]; whnf)))
  refine wr_loadAll (cs := PlC P rv' av') rfl rfl rfl (hk7.heap bp6 (fun h => h)) rfl ?_
  refine wr_call (vs := [PlV P rv' av']) rfl (refP_ca P (by omega) (by omega) rv' av' w7 (hs6.kin hk7)) rfl ?_
  rintro v w8 ⟨r8, a8, rfl, hs8, hk8⟩
  refine wr_call (vs := [.int .i64 K, PlV P r8 a8]) rfl (rPut_ca K P hok r8 a8 w8 hs8) rfl ?_
  rintro v w9 ⟨rfl, hk9⟩
  rw [hpx]
  (repeat first | (apply wr_move; exact rfl; with_reducible (conv => enter [6, 3]; whnf)) | (apply wr_assign; exact rfl; with_reducible (conv => enter [6, 3]; whnf)) | apply wr_end | apply wc_seq | apply wc_region | (apply wr_extract; (iterate 3 exact rfl); with_reducible (conv => enter [6, 3]; whnf)))
  refine wr_call (vs := [.int .i64 kind]) rfl (has_ca kind w9) rfl ?_
  rintro v w10 ⟨rfl, hk10⟩
  (repeat first | (apply wr_move; exact rfl; with_reducible (conv => enter [6, 3]; whnf)) | (apply wr_assign; exact rfl; with_reducible (conv => enter [6, 3]; whnf)) | apply wr_end | apply wc_seq | apply wc_region | (apply wr_extract; (iterate 3 exact rfl); with_reducible (conv => enter [6, 3]; whnf)))
  refine wr_call (vs := [.int .i64 kind]) rfl (rHas_ca kind w10) rfl ?_
  rintro v w11 ⟨rfl, hk11⟩
  generalize (hasF kind).1 = hl
  generalize (hasF kind).2 = hb
  have hk611 := hk7.trans (hk8.trans (hk9.trans (hk10.trans hk11)))
  have bp11 := hk611.heap bp6 (fun h => h)
  have bq11 := hk611.heap bw6 (fun h => h)
  have hs11 := hs6.kin hk611
  have hq11 := hq6.kin hk611
  have hw11 := hw6.trans hk611
  have hs11' : PlS w11.drew P rv' av' := hs11.kin (Keeps.refl NoB w11).drew
  have hrl : (refsP K P).length ≤ 1000000000000 := refsP_len K hok
  (repeat first | (apply wr_move; exact rfl; with_reducible (conv => enter [6, 3]; whnf)) | (apply wr_assign; exact rfl; with_reducible (conv => enter [6, 3]; whnf)) | apply wr_end | apply wc_seq | (apply wr_extract; (iterate 3 exact rfl); with_reducible (conv => enter [6, 3]; whnf)))
  refine wc_keep [(7, .bool true), (8, .int .i64 K), (9, .pointer (some ⟨bp, 0, none⟩)), (11, .pointer (some ⟨bq, 0, none⟩)), (12, S px), (13, .bool pok), (14, S px), (15, .bool pok), (16, S hl), (17, .bool hb), (18, S hl), (19, .bool hb)] ⟨rfl, rfl, rfl, rfl, rfl, rfl, rfl, rfl, rfl, rfl, rfl, rfl, trivial⟩ ?_
  intro f0
  refine wc_drawP (l := _) 8 _ (by kernel_rfl) (by kernel_rfl) rfl (by kernel_rfl) (by kernel_rfl) (by decide) ?_
  apply chP_pure
  focus
    intro x w' hk hF
    (repeat first | (apply wr_move; exact rfl; with_reducible (conv => enter [6, 3]; whnf)) | (apply wr_nil; try simp only [thenE, inBlockE, bodyQ]))
    exact ⟨rfl, Keeps.refl _ _⟩
  focus (intro x y h; rfl)
  focus kernel_rfl
  apply chP_pure
  focus
    intro x w' hk hF
    refine wr_loadAll (cs := PlC P rv' av') rfl rfl rfl (hk.heap (a := w11.drew) bp11 (fun h => h)) rfl ?_
    apply wr_nil
    exact ⟨rfl, Keeps.refl _ _⟩
  focus (intro x y h; rfl)
  focus kernel_rfl
  refine chP_fact (fun y => y) (fun y w => SlR w 2 y (refsP K P).length ((refsP K P).flatMap GK)) (fun y w w' h k => h.keep k (fun _ _ h => h)) ?_ ?_
  focus
    intro x w' hk hF
    refine wr_call (vs := [.int .i64 K, PlV P rv' av']) rfl (refs_ca K P hok rv' av' w' (PlS.kin (w := w11.drew) hs11' hk)) rfl ?_; rintro v'' w'' ⟨ho', hk'⟩
    apply wr_nil
    exact ⟨v'', rfl, SlR.of_own ho', hk'⟩
  apply chP_pure
  focus
    intro x w' hk hF
    (repeat first | (apply wr_move; exact rfl; with_reducible (conv => enter [6, 3]; whnf)) | (apply wr_nil; try simp only [thenE, inBlockE, bodyQ]))
    exact ⟨rfl, Keeps.refl _ _⟩
  focus (intro x y h; rfl)
  focus kernel_rfl
  apply chP_pure
  focus
    intro x w' hk hF
    refine wr_loadAll (cs := PlC P rv' av') rfl rfl rfl (hk.heap (a := w11.drew) bp11 (fun h => h)) rfl ?_
    apply wr_nil
    exact ⟨rfl, Keeps.refl _ _⟩
  focus (intro x y h; rfl)
  focus kernel_rfl
  refine chP_fact (fun y => y) (fun y w => IsPl P y w) (fun y w w' h k => h.keep k) ?_ ?_
  focus
    intro x w' hk hF
    refine wr_call (vs := [PlV P rv' av']) rfl (refP_ca P (by omega) (by omega) rv' av' w' (PlS.kin (w := w11.drew) hs11' hk)) rfl ?_; rintro v'' w'' ⟨r', a', e', hs', hk'⟩
    apply wr_nil
    exact ⟨v'', rfl, ⟨r', a', e', hs'⟩, hk'⟩
  refine chP_fact (fun y => y) (fun y w => SlR w 2 y (refsP K P).length ((refsP K P).flatMap GK)) (fun y w w' h k => h.keep k (fun _ _ h => h)) ?_ ?_
  focus
    intro x w' hk hF
    refine wr_call (vs := [.int .i64 K, x 5]) rfl (by obtain ⟨r', a', e', hs'⟩ := hF 5 (by kernel_rfl); rw [e']; exact refRefs_ca K P (by omega) r' a' w' hs') rfl ?_; rintro v'' w'' ⟨ho', hk'⟩
    apply wr_nil
    exact ⟨v'', rfl, SlR.of_own ho', hk'⟩
  apply chP_pure
  focus
    intro x w' hk hF
    refine wr_call (vs := [x 2, x 6]) rfl (keysEq_ca (refsP K P) (refsP K P) (x 2) (x 6) w' (hF 2 (by kernel_rfl)) (hF 6 (by kernel_rfl)) hrl hrl) rfl ?_; rintro v'' w'' ⟨rfl, hk'⟩; rw [decide_eq_true rfl]
    apply wr_nil
    exact ⟨rfl, hk'⟩
  focus (intro x y h; rfl)
  focus kernel_rfl
  refine chP_nil ?_
  intro x w12 hk12 hF
  have hk1112 := (Keeps.refl NoB w11).drew.trans hk12
  apply wr_assign
  exact rfl
  apply wr_end
  have bp12 := hk1112.heap bp11 (fun h => h)
  have bq12 := hk1112.heap bq11 (fun h => h)
  have hs12 := PlS.kin (w' := w12.drew) (hs11.kin hk1112) (Keeps.refl NoB w12).drew
  have hq12 := PlS.kin (w' := w12.drew) (hq11.kin hk1112) (Keeps.refl NoB w12).drew
  have hw12 := hw11.trans hk1112
  (repeat first | apply wc_seq)
  refine wc_keep [(7, .bool true), (8, .int .i64 K), (9, .pointer (some ⟨bp, 0, none⟩)), (11, .pointer (some ⟨bq, 0, none⟩)), (12, S px), (13, .bool pok), (14, S px), (15, .bool pok), (16, S hl), (17, .bool hb), (18, S hl), (19, .bool hb), (20, .bool true)] ⟨rfl, rfl, rfl, rfl, rfl, rfl, rfl, rfl, rfl, rfl, rfl, rfl, rfl, trivial⟩ ?_
  intro f1
  clear hF x
  refine wc_drawP (l := _) 40 _ (by kernel_rfl) (by kernel_rfl) rfl (by kernel_rfl) (by kernel_rfl) (by decide) ?_
  apply chP_pure
  focus
    intro x w' hk hF
    (repeat first | (apply wr_move; exact rfl; with_reducible (conv => enter [6, 3]; whnf)) | (apply wr_nil; try simp only [thenE, inBlockE, bodyQ]))
    exact ⟨rfl, Keeps.refl _ _⟩
  focus (intro x y h; rfl)
  focus kernel_rfl
  apply chP_pure
  focus
    intro x w' hk hF
    (repeat first | (apply wr_move; exact rfl; with_reducible (conv => enter [6, 3]; whnf)) | (apply wr_nil; try simp only [thenE, inBlockE, bodyQ]))
    exact ⟨rfl, Keeps.refl _ _⟩
  focus (intro x y h; rfl)
  focus kernel_rfl
  apply chP_pure
  focus
    intro x w' hk hF
    (repeat first | (apply wr_move; exact rfl; with_reducible (conv => enter [6, 3]; whnf)) | (apply wr_nil; try simp only [thenE, inBlockE, bodyQ]))
    exact ⟨rfl, Keeps.refl _ _⟩
  focus (intro x y h; rfl)
  focus kernel_rfl
  apply chP_pure
  focus
    intro x w' hk hF
    (repeat first | (apply wr_move; exact rfl; with_reducible (conv => enter [6, 3]; whnf)) | (apply wr_nil; try simp only [thenE, inBlockE, bodyQ]))
    exact ⟨rfl, Keeps.refl _ _⟩
  focus (intro x y h; rfl)
  focus kernel_rfl
  apply chP_pure
  focus
    intro x w' hk hF
    (repeat first | (apply wr_streqc; (iterate 3 exact rfl); (first | exact decide_eq_true (by with_reducible assumption) | exact decide_eq_false (by with_reducible assumption) | exact decide_eq_true rfl | exact rfl)) | (apply wr_nil; try simp only [thenE, inBlockE, bodyQ]))
    exact ⟨rfl, Keeps.refl _ _⟩
  focus (intro x y h; rfl)
  focus kernel_rfl
  apply chP_pure
  focus
    intro x w' hk hF
    (repeat first | (apply wr_pick (t := true); (iterate 2 exact rfl); with_reducible (conv => enter [6, 3]; whnf)) | (apply wr_nil; try simp only [thenE, inBlockE, bodyQ]))
    exact ⟨rfl, Keeps.refl _ _⟩
  focus (intro x y h; rfl)
  focus kernel_rfl
  apply chP_pure
  focus
    intro x w' hk hF
    (repeat first | (apply wr_move; exact rfl; with_reducible (conv => enter [6, 3]; whnf)) | (apply wr_nil; try simp only [thenE, inBlockE, bodyQ]))
    exact ⟨rfl, Keeps.refl _ _⟩
  focus (intro x y h; rfl)
  focus kernel_rfl
  apply chP_pure
  focus
    intro x w' hk hF
    (repeat first | (apply wr_move; exact rfl; with_reducible (conv => enter [6, 3]; whnf)) | (apply wr_nil; try simp only [thenE, inBlockE, bodyQ]))
    exact ⟨rfl, Keeps.refl _ _⟩
  focus (intro x y h; rfl)
  focus kernel_rfl
  apply chP_pure
  focus
    intro x w' hk hF
    (repeat first | (apply wr_move; exact rfl; with_reducible (conv => enter [6, 3]; whnf)) | (apply wr_nil; try simp only [thenE, inBlockE, bodyQ]))
    exact ⟨rfl, Keeps.refl _ _⟩
  focus (intro x y h; rfl)
  focus kernel_rfl
  apply chP_pure
  focus
    intro x w' hk hF
    refine wr_boolEq (c := true) rfl rfl rfl (by simp) ?_
    apply wr_nil
    exact ⟨rfl, Keeps.refl _ _⟩
  focus (intro x y h; rfl)
  focus kernel_rfl
  apply chP_pure
  focus
    intro x w' hk hF
    (repeat first | (apply wr_pick (t := true); (iterate 2 exact rfl); with_reducible (conv => enter [6, 3]; whnf)) | (apply wr_nil; try simp only [thenE, inBlockE, bodyQ]))
    exact ⟨rfl, Keeps.refl _ _⟩
  focus (intro x y h; rfl)
  focus kernel_rfl
  apply chP_pure
  focus
    intro x w' hk hF
    (repeat first | (apply wr_move; exact rfl; with_reducible (conv => enter [6, 3]; whnf)) | (apply wr_nil; try simp only [thenE, inBlockE, bodyQ]))
    exact ⟨rfl, Keeps.refl _ _⟩
  focus (intro x y h; rfl)
  focus kernel_rfl
  apply chP_pure
  focus
    intro x w' hk hF
    (repeat first | (apply wr_move; exact rfl; with_reducible (conv => enter [6, 3]; whnf)) | (apply wr_nil; try simp only [thenE, inBlockE, bodyQ]))
    exact ⟨rfl, Keeps.refl _ _⟩
  focus (intro x y h; rfl)
  focus kernel_rfl
  apply chP_pure
  focus
    intro x w' hk hF
    (repeat first | (apply wr_move; exact rfl; with_reducible (conv => enter [6, 3]; whnf)) | (apply wr_nil; try simp only [thenE, inBlockE, bodyQ]))
    exact ⟨rfl, Keeps.refl _ _⟩
  focus (intro x y h; rfl)
  focus kernel_rfl
  apply chP_pure
  focus
    intro x w' hk hF
    (repeat first | (apply wr_streqc; (iterate 3 exact rfl); (first | exact decide_eq_true (by with_reducible assumption) | exact decide_eq_false (by with_reducible assumption) | exact decide_eq_true rfl | exact rfl)) | (apply wr_nil; try simp only [thenE, inBlockE, bodyQ]))
    exact ⟨rfl, Keeps.refl _ _⟩
  focus (intro x y h; rfl)
  focus kernel_rfl
  apply chP_pure
  focus
    intro x w' hk hF
    (repeat first | (apply wr_pick (t := true); (iterate 2 exact rfl); with_reducible (conv => enter [6, 3]; whnf)) | (apply wr_nil; try simp only [thenE, inBlockE, bodyQ]))
    exact ⟨rfl, Keeps.refl _ _⟩
  focus (intro x y h; rfl)
  focus kernel_rfl
  apply chP_pure
  focus
    intro x w' hk hF
    (repeat first | (apply wr_move; exact rfl; with_reducible (conv => enter [6, 3]; whnf)) | (apply wr_nil; try simp only [thenE, inBlockE, bodyQ]))
    exact ⟨rfl, Keeps.refl _ _⟩
  focus (intro x y h; rfl)
  focus kernel_rfl
  apply chP_pure
  focus
    intro x w' hk hF
    (repeat first | (apply wr_move; exact rfl; with_reducible (conv => enter [6, 3]; whnf)) | (apply wr_nil; try simp only [thenE, inBlockE, bodyQ]))
    exact ⟨rfl, Keeps.refl _ _⟩
  focus (intro x y h; rfl)
  focus kernel_rfl
  apply chP_pure
  focus
    intro x w' hk hF
    (repeat first | (apply wr_move; exact rfl; with_reducible (conv => enter [6, 3]; whnf)) | (apply wr_nil; try simp only [thenE, inBlockE, bodyQ]))
    exact ⟨rfl, Keeps.refl _ _⟩
  focus (intro x y h; rfl)
  focus kernel_rfl
  apply chP_pure
  focus
    intro x w' hk hF
    refine wr_boolEq (c := true) rfl rfl rfl (by simp) ?_
    apply wr_nil
    exact ⟨rfl, Keeps.refl _ _⟩
  focus (intro x y h; rfl)
  focus kernel_rfl
  apply chP_pure
  focus
    intro x w' hk hF
    (repeat first | (apply wr_pick (t := true); (iterate 2 exact rfl); with_reducible (conv => enter [6, 3]; whnf)) | (apply wr_nil; try simp only [thenE, inBlockE, bodyQ]))
    exact ⟨rfl, Keeps.refl _ _⟩
  focus (intro x y h; rfl)
  focus kernel_rfl
  apply chP_pure
  focus
    intro x w' hk hF
    (repeat first | (apply wr_move; exact rfl; with_reducible (conv => enter [6, 3]; whnf)) | (apply wr_nil; try simp only [thenE, inBlockE, bodyQ]))
    exact ⟨rfl, Keeps.refl _ _⟩
  focus (intro x y h; rfl)
  focus kernel_rfl
  apply chP_pure
  focus
    intro x w' hk hF
    (repeat first | (apply wr_move; exact rfl; with_reducible (conv => enter [6, 3]; whnf)) | (apply wr_nil; try simp only [thenE, inBlockE, bodyQ]))
    exact ⟨rfl, Keeps.refl _ _⟩
  focus (intro x y h; rfl)
  focus kernel_rfl
  apply chP_pure
  focus
    intro x w' hk hF
    (repeat first | (apply wr_pick (t := true); (iterate 2 exact rfl); with_reducible (conv => enter [6, 3]; whnf)) | (apply wr_nil; try simp only [thenE, inBlockE, bodyQ]))
    exact ⟨rfl, Keeps.refl _ _⟩
  focus (intro x y h; rfl)
  focus kernel_rfl
  apply chP_pure
  focus
    intro x w' hk hF
    (repeat first | (apply wr_move; exact rfl; with_reducible (conv => enter [6, 3]; whnf)) | (apply wr_nil; try simp only [thenE, inBlockE, bodyQ]))
    exact ⟨rfl, Keeps.refl _ _⟩
  focus (intro x y h; rfl)
  focus kernel_rfl
  apply chP_pure
  focus
    intro x w' hk hF
    refine wr_loadAll (cs := PlC P rv' av') rfl rfl rfl (hk.heap (a := w12.drew) bp12 (fun h => h)) rfl ?_
    apply wr_nil
    exact ⟨rfl, Keeps.refl _ _⟩
  focus (intro x y h; rfl)
  focus kernel_rfl
  apply chP_pure
  focus
    intro x w' hk hF
    refine wr_loadAll (cs := PlC Q rq aq) rfl rfl rfl (hk.heap (a := w12.drew) bq12 (fun h => h)) rfl ?_
    apply wr_nil
    exact ⟨rfl, Keeps.refl _ _⟩
  focus (intro x y h; rfl)
  focus kernel_rfl
  apply chP_pure
  focus
    intro x w' hk hF
    refine wr_call (vs := [PlV P rv' av', PlV Q rq aq]) rfl (same_ca P Q ⟨by omega, by omega⟩ ⟨by omega, by omega⟩ rv' av' rq aq w' (hs12.kin hk) (hq12.kin hk)) rfl ?_; rintro v'' w'' ⟨rfl, hk'⟩
    apply wr_nil
    exact ⟨rfl, hk'⟩
  focus (intro x y h; rfl)
  focus kernel_rfl
  apply chP_pure
  focus
    intro x w' hk hF
    refine wr_loadAll (cs := PlC P rv' av') rfl rfl rfl (hk.heap (a := w12.drew) bp12 (fun h => h)) rfl ?_
    apply wr_nil
    exact ⟨rfl, Keeps.refl _ _⟩
  focus (intro x y h; rfl)
  focus kernel_rfl
  refine chP_fact (fun y => y) (fun y w => IsPl P y w) (fun y w w' h k => h.keep k) ?_ ?_
  focus
    intro x w' hk hF
    refine wr_call (vs := [PlV P rv' av']) rfl (refP_ca P (by omega) (by omega) rv' av' w' (hs12.kin hk)) rfl ?_; rintro v'' w'' ⟨r', a', e', hs', hk'⟩
    apply wr_nil
    exact ⟨v'', rfl, ⟨r', a', e', hs'⟩, hk'⟩
  apply chP_pure
  focus
    intro x w' hk hF
    refine wr_loadAll (cs := PlC Q rq aq) rfl rfl rfl (hk.heap (a := w12.drew) bq12 (fun h => h)) rfl ?_
    apply wr_nil
    exact ⟨rfl, Keeps.refl _ _⟩
  focus (intro x y h; rfl)
  focus kernel_rfl
  refine chP_fact (fun y => y) (fun y w => IsPl Q y w) (fun y w w' h k => h.keep k) ?_ ?_
  focus
    intro x w' hk hF
    refine wr_call (vs := [PlV Q rq aq]) rfl (refP_ca Q (by omega) (by omega) rq aq w' (hq12.kin hk)) rfl ?_; rintro v'' w'' ⟨r', a', e', hs', hk'⟩
    apply wr_nil
    exact ⟨v'', rfl, ⟨r', a', e', hs'⟩, hk'⟩
  apply chP_pure
  focus
    intro x w' hk hF
    refine wr_call (vs := [x 29, x 31]) rfl (by obtain ⟨r1, a1, e1, h1⟩ := hF 29 (by kernel_rfl); obtain ⟨r2, a2, e2, h2⟩ := hF 31 (by kernel_rfl); rw [e1, e2]; exact refSame_ca P Q ⟨by omega, by omega⟩ ⟨by omega, by omega⟩ r1 a1 r2 a2 w' h1 h2) rfl ?_; rintro v'' w'' ⟨rfl, hk'⟩
    apply wr_nil
    exact ⟨rfl, hk'⟩
  focus (intro x y h; rfl)
  focus kernel_rfl
  apply chP_pure
  focus
    intro x w' hk hF
    refine wr_boolEq (c := true) rfl rfl rfl (by simp) ?_
    apply wr_nil
    exact ⟨rfl, Keeps.refl _ _⟩
  focus (intro x y h; rfl)
  focus kernel_rfl
  apply chP_pure
  focus
    intro x w' hk hF
    (repeat first | (apply wr_pick (t := true); (iterate 2 exact rfl); with_reducible (conv => enter [6, 3]; whnf)) | (apply wr_nil; try simp only [thenE, inBlockE, bodyQ]))
    exact ⟨rfl, Keeps.refl _ _⟩
  focus (intro x y h; rfl)
  focus kernel_rfl
  apply chP_pure
  focus
    intro x w' hk hF
    (repeat first | (apply wr_move; exact rfl; with_reducible (conv => enter [6, 3]; whnf)) | (apply wr_nil; try simp only [thenE, inBlockE, bodyQ]))
    exact ⟨rfl, Keeps.refl _ _⟩
  focus (intro x y h; rfl)
  focus kernel_rfl
  apply chP_pure
  focus
    intro x w' hk hF
    refine wr_loadAll (cs := PlC P rv' av') rfl rfl rfl (hk.heap (a := w12.drew) bp12 (fun h => h)) rfl ?_
    apply wr_nil
    exact ⟨rfl, Keeps.refl _ _⟩
  focus (intro x y h; rfl)
  focus kernel_rfl
  apply chP_pure
  focus
    intro x w' hk hF
    refine wr_loadAll (cs := PlC P rv' av') rfl rfl rfl (hk.heap (a := w12.drew) bp12 (fun h => h)) rfl ?_
    apply wr_nil
    exact ⟨rfl, Keeps.refl _ _⟩
  focus (intro x y h; rfl)
  focus kernel_rfl
  apply chP_pure
  focus
    intro x w' hk hF
    refine wr_call (vs := [PlV P rv' av', PlV P rv' av']) rfl (same_ca P P ⟨by omega, by omega⟩ ⟨by omega, by omega⟩ rv' av' rv' av' w' (hs12.kin hk) (hs12.kin hk)) rfl ?_; rintro v'' w'' ⟨rfl, hk'⟩; rw [(sameB_iff P P).2 rfl]
    apply wr_nil
    exact ⟨rfl, hk'⟩
  focus (intro x y h; rfl)
  focus kernel_rfl
  apply chP_pure
  focus
    intro x w' hk hF
    (repeat first | (apply wr_pick (t := true); (iterate 2 exact rfl); with_reducible (conv => enter [6, 3]; whnf)) | (apply wr_nil; try simp only [thenE, inBlockE, bodyQ]))
    exact ⟨rfl, Keeps.refl _ _⟩
  focus (intro x y h; rfl)
  focus kernel_rfl
  refine chP_nil ?_
  intro x w13 hk13 hF
  apply wr_assign
  exact rfl
  apply wr_end
  (repeat first | (apply wc_ret; try simp only [thenE, inBlockE, bodyQ]))
  exact leave1 (v := .bool true) rfl rfl ⟨rfl, hw12.trans ((Keeps.refl NoB w12).drew.trans hk13)⟩
end Go.Proofs.YthlbgeonobicbaaDoor
