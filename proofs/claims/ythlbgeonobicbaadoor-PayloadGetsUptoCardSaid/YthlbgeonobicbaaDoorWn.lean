/- noriaref01.Parse, All, Last: what they do. -/
import Derived.Test.YthlbgeonobicbaaDoorWk
import Derived.Test.YthlbgeonobicbaaDoorM6
namespace Go.Proofs.YthlbgeonobicbaaDoor
open Go Go.V Go.RowKit
set_option linter.unusedVariables false
set_option linter.unusedSimpArgs false

set_option maxRecDepth 100000 in
set_option maxHeartbeats 2000000 in
theorem rall_ca (l : List WF) (num : Int) (sl : Value) (w : World) (hsl : SlR w 4 sl l.length (FL l)) (hlen : l.length ≤ 1000000000000) :
    Ca Tryd.prog 39 #[sl, .int .i64 num] w fun v w' => w'.ownsRow w.heap.size 88 4 v (allF l num).length (FL (allF l num)) ∧ Keeps NoB w w' := by
  obtain ⟨a, c, rfl, hc, hat⟩ := hsl.shape
  refine ca_of_body (args := [.slice a l.length c, .int .i64 num]) Tryd.func39 rfl (by kernel_rfl) ?_
  (repeat first | (apply wr_assign; exact rfl; with_reducible (conv => enter [6, 3]; whnf)) | apply wr_end | apply wc_seq | apply wc_region | apply wc_block)
  refine wc_loopL (α := Nat × Value) (fun x => [(0, .slice a l.length c), (1, .int .i64 num), (5, x.2), (6, .int .i64 (x.1 : Int))])
    (fun x ds w' => ds = [] ∧ x.1 ≤ l.length ∧ w'.ownsRow w.heap.size 88 4 x.2 (allF (l.take x.1) num).length (FL (allF (l.take x.1) num)) ∧ Keeps NoB w w') (fun x => l.length - x.1) (0, .slice none 0 0) ⟨rfl, Nat.zero_le _, ⟨rfl, .inl ⟨rfl, rfl⟩⟩, Keeps.refl _ _⟩ ⟨rfl, rfl, rfl, rfl, trivial⟩ ?_
  rintro ⟨i, r⟩ ds f0 w2 ⟨rfl, hi, ho, hk2⟩
  dsimp only at hi ho ⊢
  by_cases hlt : i < l.length
  · obtain ⟨b, o, rfl, cur, e, fr, hb, hr⟩ := hat (by omega)
    have hb2 := hk2.heap hb (fun h => h)
    have hsz := hk2.size
    obtain ⟨x, hx⟩ : ∃ x, l[i]? = some x := ⟨l[i], by simp [hlt]⟩
    have hft := filter_take (fun y : WF => y.num == num) l i x hx
    have hfl : (allF (l.take i) num).length ≤ i := Nat.le_trans (List.length_filter_le _ _) (by simp; omega)
    obtain ⟨xn, xk, xv, xs⟩ := x
    (repeat first | (apply wr_move; exact rfl; with_reducible (conv => enter [6, 3]; whnf)) | apply wr_end | apply wc_seq | apply wc_region | apply wc_skip | apply wc_block | (apply wr_len_slice; iterate 2 exact rfl) | (apply wr_cmp; (iterate 3 exact rfl); exact cmpT (by dsimp only [cmpP]; first | done | omega)) | (apply wc_true; exact rfl))
    refine wr_indexAddr (i := i) rfl rfl rfl hlt ?_
    refine wr_fieldAddr rfl rfl ?_
    refine wr_load (v := .int .i64 xn) rfl rfl rfl hb2 (cell_elem (g := WF.cs) (k := 4) (n := l.length) (i := i) (j := 0) WF.cs_len hr hlt hx rfl) ?_
    by_cases he : xn = num
    · (repeat first | (apply wr_move; exact rfl; with_reducible (conv => enter [6, 3]; whnf)) | apply wr_end | apply wc_region | (apply wr_cmp; (iterate 3 exact rfl); exact cmpT (by dsimp only [cmpP]; first | done | omega)) | (apply wc_true; exact rfl))
      refine wr_indexAddr (i := i) rfl rfl rfl hlt ?_
      refine wr_loadElem (G := WF.cs) rfl rfl WF.cs_len rfl hb2 hr hlt hx rfl ?_
      refine wr_buildSlice (vs := [.agg #[.int .i64 xn, .int .i64 xk, .int .u64 (xv : Int), S xs]]) rfl rfl (by intro v hv; simp at hv; subst hv; rfl) rfl (by decide) (by decide) (by decide) ?_
      refine wr_append (v := r) (n := (allF (l.take i) num).length) (m := 1) (news := [.int .i64 xn, .int .i64 xk, .int .u64 (xv : Int), S xs]) rfl rfl (ho.alloc _) rfl (heap_alloc_same _ _) rfl (by intro u hu; simp at hu; rcases hu with rfl | rfl | rfl | rfl <;> rfl) rfl (by decide) (by omega) (by omega) (by simp; omega) ?_
      intro r' w3 ho3 hk3 _
      (repeat first | (apply wr_move; exact rfl; with_reducible (conv => enter [6, 3]; whnf)) | (apply wr_assign; exact rfl; with_reducible (conv => enter [6, 3]; whnf)) | apply wr_end | apply wc_region | (apply wr_add; (iterate 3 exact rfl); exact w_fit (by dsimp only [kIn]; first | done | omega)) | (apply wr_nil; try simp only [thenE, inBlockE, bodyQ]))
      refine ⟨(i + 1, r'), by dsimp only; omega, ⟨rfl, hlt, ?_, ?_⟩, rfl, rfl, rfl, by simp, trivial⟩
      · show w3.ownsRow _ _ _ _ (allF (l.take (i + 1)) num).length (FL (allF (l.take (i + 1)) num))
        unfold allF at ho3 ⊢
        rw [hft, if_pos (by simpa using he), FL_snoc, List.length_append]
        exact ho3
      · exact (hk2.alloc _).trans' hk3 fun j hj h => absurd (ho.lt j h).1 (by omega)
    · (repeat first | (apply wr_move; exact rfl; with_reducible (conv => enter [6, 3]; whnf)) | (apply wr_assign; exact rfl; with_reducible (conv => enter [6, 3]; whnf)) | apply wr_end | apply wc_region | apply wc_skip | (apply wr_cmp; (iterate 3 exact rfl); exact cmpF (by dsimp only [cmpN]; first | done | omega)) | (apply wr_add; (iterate 3 exact rfl); exact w_fit (by dsimp only [kIn]; first | done | omega)) | (apply wc_false; exact rfl))
      refine ⟨(i + 1, r), by dsimp only; omega, ⟨rfl, hlt, ?_, hk2⟩, rfl, rfl, rfl, by simp, trivial⟩
      show World.ownsRow _ _ _ _ _ (allF (l.take (i + 1)) num).length (FL (allF (l.take (i + 1)) num))
      unfold allF at ho ⊢
      rw [hft, if_neg (by simpa using he)]
      exact ho
  · have he : i = l.length := by omega
    subst he
    rw [List.take_length] at ho
    (repeat first | (apply wr_move; exact rfl; with_reducible (conv => enter [6, 3]; whnf)) | (apply wr_assign; exact rfl; with_reducible (conv => enter [6, 3]; whnf)) | apply wr_end | apply wc_seq | apply wc_region | (apply wr_len_slice; iterate 2 exact rfl) | (apply wr_cmp; (iterate 3 exact rfl); exact cmpF (by dsimp only [cmpN]; first | done | omega)) | (apply wc_false; exact rfl) | (apply wc_exit; try simp only [thenE, inBlockE, bodyQ, ↓reduceIte, Nat.reduceEqDiff]) | (apply wc_ret; try simp only [thenE, inBlockE, bodyQ]))
    exact leave1 (v := r) rfl rfl ⟨ho, hk2⟩
set_option maxRecDepth 100000 in
set_option maxHeartbeats 2000000 in
theorem rlast_ca (l : List WF) (num : Int) (sl : Value) (w : World) (hsl : SlR w 4 sl l.length (FL l)) (hlen : l.length ≤ 1000000000000) :
    Ca Tryd.prog 59 #[sl, .int .i64 num] w fun v w' => v = lastV (lastF l num) ∧ Keeps NoB w w' := by
  refine ca_of_body (args := [sl, .int .i64 num]) Tryd.func59 rfl (by kernel_rfl) ?_
  have hslA := hsl.keep ((Keeps.refl NoB w).alloc (.cells (Value.agg #[.int .i64 0, .int .i64 0, .int .u64 0, S []]).cells 88)) (fun _ _ h => h)
  (repeat first | (apply wr_move; exact rfl; with_reducible (conv => enter [6, 3]; whnf)) | (apply wr_assign; exact rfl; with_reducible (conv => enter [6, 3]; whnf)) | apply wr_end | apply wc_seq | apply wc_region | (apply wr_alloc; exact rfl))
  refine wr_call (vs := [sl, .int .i64 num]) rfl (rall_ca l num sl _ hslA hlen) rfl ?_
  rintro v w1 ⟨ho, hk1⟩
  have hb1 := hk1.heap (heap_alloc_same w (.cells (Value.agg #[.int .i64 0, .int .i64 0, .int .u64 0, S []]).cells 88)) (fun h => h)
  have hk := ((Keeps.refl NoB w).alloc (.cells (Value.agg #[.int .i64 0, .int .i64 0, .int .u64 0, S []]).cells 88)).trans hk1
  unfold lastF
  generalize hA : allF l num = A at ho ⊢
  obtain ⟨a, c, rfl, hc, hat⟩ := (SlR.of_own ho).shape
  cases hgl : A.getLast? with
  | none =>
    have h0 : A = [] := List.getLast?_eq_none_iff.1 hgl
    subst h0
    (repeat first | (apply wr_move; exact rfl; with_reducible (conv => enter [6, 3]; whnf)) | (apply wr_assign; exact rfl; with_reducible (conv => enter [6, 3]; whnf)) | apply wr_end | apply wc_seq | apply wc_region | (apply wr_len_slice; iterate 2 exact rfl) | (apply wr_cmp; (iterate 3 exact rfl); exact cmp_eq _ _) | (apply wc_true; exact rfl))
    refine wr_build (ps := []) (cs := [.int .i64 0, .int .i64 0, .int .u64 0, S []]) rfl rfl rfl rfl ?_
    refine wr_storeAll (cs := [.int .i64 0, .int .i64 0, .int .u64 0, S []]) rfl rfl rfl (by intro u hu; simp at hu; rcases hu with rfl | rfl | rfl | rfl <;> rfl) hb1 rfl rfl ?_
    (repeat first | (apply wr_assign; exact rfl; with_reducible (conv => enter [6, 3]; whnf)) | apply wr_end | (apply wc_ret; try simp only [thenE, inBlockE, bodyQ]))
    refine leaveN (vs := [.agg #[.int .i64 0, .int .i64 0, .int .u64 0, S []], .bool false]) (resv_cells (cs := [.int .i64 0, .int .i64 0, .int .u64 0, S []]) rfl rfl (World.putObj_heap_same (lt_of_heap hb1)) rfl (resv_tmp rfl resv_nil)) ⟨rfl, hk.put _ (fun h => by omega)⟩
  | some x =>
    have hne : A.length ≠ 0 := by rintro h0; rw [List.eq_nil_of_length_eq_zero h0] at hgl; cases hgl
    have hx : A[A.length - 1]? = some x := by rw [← List.getLast?_eq_getElem?]; exact hgl
    obtain ⟨b, o, rfl, cur, e, fr, hb, hr⟩ := hat (by omega)
    obtain ⟨xn, xk, xv, xs⟩ := x
    have hcast : (A.length : Int) - 1 = ((A.length - 1 : Nat) : Int) := by omega
    have hAl : A.length ≤ l.length := by rw [← hA]; exact List.length_filter_le _ _
    (repeat first | (apply wr_move; exact rfl; with_reducible (conv => enter [6, 3]; whnf)) | (apply wr_assign; exact rfl; with_reducible (conv => enter [6, 3]; whnf)) | apply wr_end | apply wc_seq | apply wc_region | apply wc_skip | (apply wr_len_slice; iterate 2 exact rfl) | (apply wr_cmp; (iterate 3 exact rfl); exact cmpF (by dsimp only [cmpN]; first | done | omega)) | (apply wr_sub; (iterate 3 exact rfl); exact w_fit (by dsimp only [kIn]; first | done | omega)) | (apply wc_false; exact rfl))
    rw [hcast]
    refine wr_indexAddr rfl rfl rfl (Nat.sub_lt (Nat.pos_of_ne_zero hne) (by decide)) ?_
    refine wr_loadElem (G := WF.cs) (n := A.length) rfl rfl WF.cs_len rfl hb hr (Nat.sub_lt (Nat.pos_of_ne_zero hne) (by decide)) hx rfl ?_
    refine wr_storeAll (cs := [.int .i64 xn, .int .i64 xk, .int .u64 (xv : Int), S xs]) rfl rfl rfl (by intro u hu; simp at hu; rcases hu with rfl | rfl | rfl | rfl <;> rfl) hb1 rfl rfl ?_
    (repeat first | (apply wr_assign; exact rfl; with_reducible (conv => enter [6, 3]; whnf)) | apply wr_end | (apply wc_ret; try simp only [thenE, inBlockE, bodyQ]))
    refine leaveN (vs := [.agg #[.int .i64 xn, .int .i64 xk, .int .u64 (xv : Int), S xs], .bool true]) (resv_cells (cs := [.int .i64 xn, .int .i64 xk, .int .u64 (xv : Int), S xs]) rfl rfl (World.putObj_heap_same (lt_of_heap hb1)) rfl (resv_tmp rfl resv_nil)) ⟨rfl, hk.put _ (fun h => by omega)⟩

def rparseR (s : List UInt8) (w : World) (v : Value) (w' : World) : Prop := match parseF s with
  | some l => ∃ sl, v = .tuple #[sl, .bool true] ∧ w'.ownsRow w.heap.size 88 4 sl l.length (FL l)
  | none => v = .tuple #[.slice none 0 0, .bool false]
set_option maxRecDepth 100000 in
set_option maxHeartbeats 8000000 in
theorem rparse_ca (s : List UInt8) (hs : s.length ≤ 1000000000000) (w : World) : Ca Tryd.prog 36 #[S s] w fun v w' => rparseR s w v w' ∧ Keeps NoB w w' := by
  refine ca_of_body (args := [S s]) Tryd.func36 rfl (by kernel_rfl) ?_
  (repeat first | (apply wr_assign; exact rfl; with_reducible (conv => enter [6, 3]; whnf)) | apply wr_end | apply wc_seq | apply wc_region | apply wc_block)
  refine wc_loopL (α := List UInt8 × List WF × Value) (fun x => [(0, S x.1), (4, x.2.2)])
    (fun x ds w' => ds = [] ∧ x.2.1.length + x.1.length ≤ s.length ∧ parseF s = (parseF x.1).map (x.2.1 ++ ·) ∧ w'.ownsRow w.heap.size 88 4 x.2.2 x.2.1.length (FL x.2.1) ∧ Keeps NoB w w') (fun x => x.1.length) (s, [], .slice none 0 0) ⟨rfl, by simp, by cases parseF s <;> simp, ⟨rfl, .inl ⟨rfl, rfl⟩⟩, Keeps.refl _ _⟩ ⟨rfl, rfl, trivial⟩ ?_
  rintro ⟨x, acc, r⟩ ds f0 w2 ⟨rfl, hlen, heq, ho, hk2⟩
  dsimp only at hlen heq ho ⊢
  have hsz2 := hk2.size
  by_cases hx : x = []
  · subst hx
    (repeat first | (apply wr_move; exact rfl; with_reducible (conv => enter [6, 3]; whnf)) | (apply wr_assign; exact rfl; with_reducible (conv => enter [6, 3]; whnf)) | apply wr_end | apply wc_seq | apply wc_region | (apply wr_len_str; iterate 2 exact rfl) | (apply wr_cmp; (iterate 3 exact rfl); exact cmp_lt _ _) | (apply wc_false; exact rfl) | (apply wc_exit; try simp only [thenE, inBlockE, bodyQ, ↓reduceIte, Nat.reduceEqDiff]) | (apply wc_ret; try simp only [thenE, inBlockE, bodyQ]))
    refine leave2 (v1 := r) (v2 := .bool true) rfl rfl rfl ⟨?_, hk2⟩
    unfold rparseR
    rw [heq, parseF_nil]
    simp only [Option.map_some, List.append_nil]
    exact ⟨r, rfl, ho⟩
  · have hpos : 0 < x.length := Nat.pos_of_ne_zero fun h => hx (List.eq_nil_of_length_eq_zero h)
    (repeat first | (apply wr_move; exact rfl; with_reducible (conv => enter [6, 3]; whnf)) | apply wr_end | apply wc_seq | apply wc_region | apply wc_skip | apply wc_block | (apply wr_len_str; iterate 2 exact rfl) | (apply wr_cmp; (iterate 3 exact rfl); exact cmpT (by dsimp only [cmpP]; first | done | omega)) | (apply wc_true; exact rfl))
    refine wr_call (vs := [S x]) rfl (rreadVarint_ca x (by omega) _) rfl ?_
    rintro v w3 ⟨rfl, hw3⟩
    subst hw3
    cases hrv : readVarint x with
    | none =>
      have hT : takeF x = .short := by unfold takeF; rw [hrv]
      dsimp only [rvV]
      (repeat first | (apply wr_move; exact rfl; with_reducible (conv => enter [6, 3]; whnf)) | (apply wr_assign; exact rfl; with_reducible (conv => enter [6, 3]; whnf)) | apply wr_end | apply wc_seq | apply wc_region | (apply wr_not; iterate 2 exact rfl) | (apply wr_pick (t := true); (iterate 2 exact rfl); with_reducible (conv => enter [6, 3]; whnf)) | (apply wr_extract; (iterate 3 exact rfl); with_reducible (conv => enter [6, 3]; whnf)) | (apply wc_true; exact rfl) | (apply wc_ret; try simp only [thenE, inBlockE, bodyQ]) | (apply wr_skip; exact rfl))
      exact leave2 (v1 := .slice none 0 0) (v2 := .bool false) rfl rfl rfl ⟨by unfold rparseR; rw [heq, parseF_no hx (.inl hT)]; rfl, hk2⟩
    | some nk =>
      obtain ⟨tag, n⟩ := nk
      obtain ⟨b1, b2, b3⟩ := readVarint_bounds hrv
      dsimp only [rvV]
      by_cases hbad : 4294967296 ≤ tag ∨ tag < 8
      · have hT : takeF x = .wrong := by unfold takeF; rw [hrv]; dsimp only; rw [if_pos hbad]
        have hc : 4294967296 ≤ tag ∨ (tag < 4294967296 ∧ tag < 8) := by omega
        clear hbad
        rcases hc with hc | hc
        all_goals
          (repeat first | (apply wr_move; exact rfl; with_reducible (conv => enter [6, 3]; whnf)) | (apply wr_assign; exact rfl; with_reducible (conv => enter [6, 3]; whnf)) | apply wr_end | apply wc_seq | apply wc_region | (apply wr_not; iterate 2 exact rfl) | (apply wr_cmp; (iterate 3 exact rfl); exact cmpT (by dsimp only [cmpP]; first | done | omega)) | (apply wr_cmp; (iterate 3 exact rfl); exact cmpF (by dsimp only [cmpN]; first | done | omega)) | (apply wr_pick (t := true); (iterate 2 exact rfl); with_reducible (conv => enter [6, 3]; whnf)) | (apply wr_pick (t := false); (iterate 2 exact rfl); with_reducible (conv => enter [6, 3]; whnf)) | (apply wr_extract; (iterate 3 exact rfl); with_reducible (conv => enter [6, 3]; whnf)) | (apply wc_true; exact rfl) | (apply wc_ret; try simp only [thenE, inBlockE, bodyQ]) | (apply wr_skip; exact rfl))
          exact leave2 (v1 := .slice none 0 0) (v2 := .bool false) rfl rfl rfl ⟨by unfold rparseR; rw [heq, parseF_no hx (.inr hT)]; rfl, hk2⟩
      · have htk : takeF x = takeF x := rfl
        conv at htk => rhs; unfold takeF; rw [hrv]; dsimp only; rw [if_neg hbad]
        have h1 : tag < 4294967296 := by omega
        have h2 : 8 ≤ tag := by omega
        clear hbad
        (repeat first | (apply wr_move; exact rfl; with_reducible (conv => enter [6, 3]; whnf)) | (apply wr_assign; exact rfl; with_reducible (conv => enter [6, 3]; whnf)) | apply wr_end | apply wc_seq | apply wc_region | apply wc_skip | (apply wr_not; iterate 2 exact rfl) | (apply wr_cmp; (iterate 3 exact rfl); exact cmpF (by dsimp only [cmpN]; first | done | omega)) | (apply wr_pick (t := false); (iterate 2 exact rfl); with_reducible (conv => enter [6, 3]; whnf)) | (apply wr_extract; (iterate 3 exact rfl); with_reducible (conv => enter [6, 3]; whnf)) | (apply wc_false; exact rfl))
        refine wr_sl_from (i := n) rfl rfl rfl b3 ?_
        (repeat first | (apply wr_move; exact rfl; with_reducible (conv => enter [6, 3]; whnf)) | (apply wr_assign; exact rfl; with_reducible (conv => enter [6, 3]; whnf)) | apply wr_end | apply wc_seq | apply wc_region)
        refine wr_quoN (n := tag) (m := 8) rfl rfl rfl (by decide) (w_u64 (by omega)) ?_
        (repeat first | (apply wr_move; exact rfl; with_reducible (conv => enter [6, 3]; whnf)) | (apply wr_conv; (iterate 2 exact rfl); exact w_fit (by dsimp only [kIn]; first | done | omega)))
        refine wr_remN (n := tag) (m := 8) rfl rfl rfl (by decide) ?_
        (repeat first | (apply wr_conv; (iterate 2 exact rfl); exact w_fit (by dsimp only [kIn]; first | done | omega)))
        refine wr_build (ps := [(0, .int .i64 ((tag / 8 : Nat) : Int)), (1, .int .i64 ((tag % 8 : Nat) : Int))]) (cs := [.int .i64 ((tag / 8 : Nat) : Int), .int .i64 ((tag % 8 : Nat) : Int), .int .u64 0, S []]) rfl rfl rfl rfl ?_
        apply wr_alloc
        exact rfl
        refine wr_storeAll (cs := [.int .i64 ((tag / 8 : Nat) : Int), .int .i64 ((tag % 8 : Nat) : Int), .int .u64 0, S []]) rfl rfl rfl (by intro u hu; simp at hu; rcases hu with rfl | rfl | rfl | rfl <;> rfl) (heap_alloc_same _ _) rfl rfl ?_
        obtain ⟨w4, hw4⟩ : ∃ w4, w4 = (w3.alloc (.cells (Value.agg #[.int .i64 0, .int .i64 0, .int .u64 0, S []]).cells 88)).putObj w3.heap.size (.cells #[.int .i64 ((tag / 8 : Nat) : Int), .int .i64 ((tag % 8 : Nat) : Int), .int .u64 0, S []] 88 (0, 0)) := ⟨_, rfl⟩
        have hk4 : Keeps NoB w3 w4 := by rw [hw4]; exact ((Keeps.refl NoB w3).alloc _).put _ (fun h => by omega)
        have hf4 : w4.heap[w3.heap.size]? = some (.cells #[.int .i64 ((tag / 8 : Nat) : Int), .int .i64 ((tag % 8 : Nat) : Int), .int .u64 0, S []] 88 (0, 0)) := by rw [hw4]; exact World.putObj_heap_same (by simp)
        have hos4 := lt_of_heap hf4
        rw [← hw4]
        clear hw4
        have ho4 := own_keep ho hk4 (fun b hb h => h)
        have hk24 := hk2.trans hk4
        apply wr_end
        apply wc_seq
        apply wc_region
        apply wr_assign
        exact rfl
        apply wr_end
        apply wc_seq
        refine wc_cut (fun ds f w' => ds = [] ∧ ∃ (K : Int) (v z : Nat) (s' : List UInt8), takeF x = (if s'.length < z then .short else .ok ⟨((tag / 8 : Nat) : Int), K, v, s'.take z⟩ (s'.drop z)) ∧ v < 18446744073709551616 ∧ z < 18446744073709551616 ∧ s'.length < x.length ∧
          Slots f [(0, S s'), (4, r), (8, .pointer (some ⟨w3.heap.size, 0, none⟩)), (9, .int .u64 (z : Int))] ∧ w'.heap[w3.heap.size]? = some (.cells #[.int .i64 ((tag / 8 : Nat) : Int), .int .i64 K, .int .u64 (v : Int), S []] 88 (0, 0)) ∧ w'.ownsRow w.heap.size 88 4 r acc.length (FL acc) ∧ Keeps NoB w w') ?_ ?_
        · have hdl : (x.drop n).length < x.length := by rw [List.length_drop]; omega
          have hk5 : tag % 8 = 0 ∨ tag % 8 = 2 ∨ tag % 8 = 1 ∨ tag % 8 = 5 ∨ (tag % 8 ≠ 0 ∧ tag % 8 ≠ 1 ∧ tag % 8 ≠ 2 ∧ tag % 8 ≠ 5) := by omega
          rcases hk5 with hk5 | hk5 | hk5 | hk5 | hk5
          · rw [if_pos hk5] at htk
            (repeat first | (apply wr_move; exact rfl; with_reducible (conv => enter [6, 3]; whnf)) | (apply wr_assign; exact rfl; with_reducible (conv => enter [6, 3]; whnf)) | apply wr_end | apply wc_seq | apply wc_region | apply wc_block | (apply wr_fieldAddr; iterate 2 exact rfl) | (apply wr_load; (iterate 3 exact rfl); (focus repeat first | with_reducible assumption | exact heap_alloc_same _ _ | exact World.putObj_heap_same (by first | omega | (simp only [World.size_alloc, World.putObj_size, ne_eq]; omega)) | ((first | refine hAl ?_ ?_ | refine hPu ?_ ?_); focus first | omega | (simp only [World.size_alloc, World.putObj_size, ne_eq]; omega))); exact rfl; conv => enter [6, 3]; whnf) | (apply wr_cmp; (iterate 3 exact rfl); exact cmpT (by dsimp only [cmpP]; first | done | omega)) | (apply wc_true; exact rfl))
            refine wr_call (vs := [S (x.drop n)]) rfl (rreadVarint_ca (x.drop n) (by omega) _) rfl ?_
            rintro v w5 ⟨rfl, hw5⟩
            subst hw5
            cases hrv2 : readVarint (x.drop n) with
            | none =>
              rw [hrv2] at htk
              dsimp only [rvV]
              (repeat first | (apply wr_move; exact rfl; with_reducible (conv => enter [6, 3]; whnf)) | (apply wr_assign; exact rfl; with_reducible (conv => enter [6, 3]; whnf)) | apply wr_end | apply wc_seq | apply wc_region | (apply wr_not; iterate 2 exact rfl) | (apply wr_extract; (iterate 3 exact rfl); with_reducible (conv => enter [6, 3]; whnf)) | (apply wc_true; exact rfl) | (apply wc_ret; try simp only [thenE, inBlockE, bodyQ]))
              exact leave2 (v1 := .slice none 0 0) (v2 := .bool false) rfl rfl rfl ⟨by unfold rparseR; rw [heq, parseF_no hx (.inl htk)]; rfl, hk24⟩
            | some vm =>
              obtain ⟨v, m⟩ := vm
              obtain ⟨c1, c2, c3⟩ := readVarint_bounds hrv2
              rw [hrv2] at htk
              dsimp only [rvV]
              (repeat first | (apply wr_move; exact rfl; with_reducible (conv => enter [6, 3]; whnf)) | (apply wr_assign; exact rfl; with_reducible (conv => enter [6, 3]; whnf)) | apply wr_end | apply wc_seq | apply wc_region | apply wc_skip | (apply wr_fieldAddr; iterate 2 exact rfl) | (apply wr_not; iterate 2 exact rfl) | (apply wr_extract; (iterate 3 exact rfl); with_reducible (conv => enter [6, 3]; whnf)) | (apply wr_store; (iterate 3 exact rfl); (first | exact rfl | with_reducible assumption); (focus repeat first | with_reducible assumption | exact heap_alloc_same _ _ | exact World.putObj_heap_same (by first | omega | (simp only [World.size_alloc, World.putObj_size, ne_eq]; omega)) | ((first | refine hAl ?_ ?_ | refine hPu ?_ ?_); focus first | omega | (simp only [World.size_alloc, World.putObj_size, ne_eq]; omega))); exact rfl) | (apply wc_false; exact rfl))
              refine wr_sl_from (i := m) rfl rfl rfl c3 ?_
              (repeat first | (apply wr_assign; exact rfl; with_reducible (conv => enter [6, 3]; whnf)) | (apply wr_nil; try simp only [thenE, inBlockE, bodyQ]))
              refine ⟨by trivial, 0, v, 0, (x.drop n).drop m, ?_, c1, by decide, by rw [List.length_drop]; omega, ⟨rfl, rfl, rfl, rfl, trivial⟩, ?_, ?_, ?_⟩
              · rw [htk, if_neg (by omega)]; simp
              · rw [hk5]; exact World.putObj_heap_same hos4
              · exact own_keep ho4 ((Keeps.refl (fun k => k = w3.heap.size) w5).put _ (fun h => rfl)) (fun b hb h => by have := (ho.lt b hb).2; omega)
              · exact hk24.put _ (fun h => by omega)
          · rw [if_neg (by omega), if_pos hk5] at htk
            (repeat first | (apply wr_move; exact rfl; with_reducible (conv => enter [6, 3]; whnf)) | (apply wr_assign; exact rfl; with_reducible (conv => enter [6, 3]; whnf)) | apply wr_end | apply wc_seq | apply wc_region | apply wc_block | (apply wr_fieldAddr; iterate 2 exact rfl) | (apply wr_load; (iterate 3 exact rfl); (focus repeat first | with_reducible assumption | exact heap_alloc_same _ _ | exact World.putObj_heap_same (by first | omega | (simp only [World.size_alloc, World.putObj_size, ne_eq]; omega)) | ((first | refine hAl ?_ ?_ | refine hPu ?_ ?_); focus first | omega | (simp only [World.size_alloc, World.putObj_size, ne_eq]; omega))); exact rfl; conv => enter [6, 3]; whnf) | (apply wr_cmp; (iterate 3 exact rfl); exact cmpT (by dsimp only [cmpP]; first | done | omega)) | (apply wr_cmp; (iterate 3 exact rfl); exact cmpF (by dsimp only [cmpN]; first | done | omega)) | (apply wc_true; exact rfl) | (apply wc_false; exact rfl))
            refine wr_call (vs := [S (x.drop n)]) rfl (rreadVarint_ca (x.drop n) (by omega) _) rfl ?_
            rintro v w5 ⟨rfl, hw5⟩
            subst hw5
            cases hrv2 : readVarint (x.drop n) with
            | none =>
              rw [hrv2] at htk
              dsimp only [rvV]
              (repeat first | (apply wr_move; exact rfl; with_reducible (conv => enter [6, 3]; whnf)) | (apply wr_assign; exact rfl; with_reducible (conv => enter [6, 3]; whnf)) | apply wr_end | apply wc_seq | apply wc_region | (apply wr_not; iterate 2 exact rfl) | (apply wr_extract; (iterate 3 exact rfl); with_reducible (conv => enter [6, 3]; whnf)) | (apply wc_true; exact rfl) | (apply wc_ret; try simp only [thenE, inBlockE, bodyQ]))
              exact leave2 (v1 := .slice none 0 0) (v2 := .bool false) rfl rfl rfl ⟨by unfold rparseR; rw [heq, parseF_no hx (.inl htk)]; rfl, hk24⟩
            | some vm =>
              obtain ⟨v, m⟩ := vm
              obtain ⟨c1, c2, c3⟩ := readVarint_bounds hrv2
              rw [hrv2] at htk
              dsimp only [rvV]
              (repeat first | (apply wr_move; exact rfl; with_reducible (conv => enter [6, 3]; whnf)) | (apply wr_assign; exact rfl; with_reducible (conv => enter [6, 3]; whnf)) | apply wr_end | apply wc_seq | apply wc_region | apply wc_skip | (apply wr_not; iterate 2 exact rfl) | (apply wr_extract; (iterate 3 exact rfl); with_reducible (conv => enter [6, 3]; whnf)) | (apply wc_false; exact rfl))
              refine wr_sl_from (i := m) rfl rfl rfl c3 ?_
              (repeat first | (apply wr_assign; exact rfl; with_reducible (conv => enter [6, 3]; whnf)) | (apply wr_nil; try simp only [thenE, inBlockE, bodyQ]))
              refine ⟨by trivial, 2, 0, v, (x.drop n).drop m, htk, by decide, c1, by rw [List.length_drop]; omega, ⟨rfl, rfl, rfl, rfl, trivial⟩, ?_, ho4, hk24⟩
              rw [hk5] at hf4; exact hf4
          · rw [if_neg (by omega), if_neg (by omega), if_pos hk5] at htk
            (repeat first | (apply wr_assign; exact rfl; with_reducible (conv => enter [6, 3]; whnf)) | apply wr_end | apply wc_seq | apply wc_region | apply wc_block | (apply wr_fieldAddr; iterate 2 exact rfl) | (apply wr_load; (iterate 3 exact rfl); (focus repeat first | with_reducible assumption | exact heap_alloc_same _ _ | exact World.putObj_heap_same (by first | omega | (simp only [World.size_alloc, World.putObj_size, ne_eq]; omega)) | ((first | refine hAl ?_ ?_ | refine hPu ?_ ?_); focus first | omega | (simp only [World.size_alloc, World.putObj_size, ne_eq]; omega))); exact rfl; conv => enter [6, 3]; whnf) | (apply wr_cmp; (iterate 3 exact rfl); exact cmpT (by dsimp only [cmpP]; first | done | omega)) | (apply wr_cmp; (iterate 3 exact rfl); exact cmpF (by dsimp only [cmpN]; first | done | omega)) | (apply wc_true; exact rfl) | (apply wc_false; exact rfl) | (apply wr_nil; try simp only [thenE, inBlockE, bodyQ]))
            refine ⟨by trivial, 1, 0, 8, x.drop n, htk, by decide, by decide, hdl, ⟨rfl, rfl, rfl, rfl, trivial⟩, ?_, ho4, hk24⟩
            rw [hk5] at hf4; exact hf4
          · rw [if_neg (by omega), if_neg (by omega), if_neg (by omega), if_pos hk5] at htk
            (repeat first | (apply wr_assign; exact rfl; with_reducible (conv => enter [6, 3]; whnf)) | apply wr_end | apply wc_seq | apply wc_region | apply wc_block | (apply wr_fieldAddr; iterate 2 exact rfl) | (apply wr_load; (iterate 3 exact rfl); (focus repeat first | with_reducible assumption | exact heap_alloc_same _ _ | exact World.putObj_heap_same (by first | omega | (simp only [World.size_alloc, World.putObj_size, ne_eq]; omega)) | ((first | refine hAl ?_ ?_ | refine hPu ?_ ?_); focus first | omega | (simp only [World.size_alloc, World.putObj_size, ne_eq]; omega))); exact rfl; conv => enter [6, 3]; whnf) | (apply wr_cmp; (iterate 3 exact rfl); exact cmpT (by dsimp only [cmpP]; first | done | omega)) | (apply wr_cmp; (iterate 3 exact rfl); exact cmpF (by dsimp only [cmpN]; first | done | omega)) | (apply wc_true; exact rfl) | (apply wc_false; exact rfl) | (apply wr_nil; try simp only [thenE, inBlockE, bodyQ]))
            refine ⟨by trivial, 5, 0, 4, x.drop n, htk, by decide, by decide, hdl, ⟨rfl, rfl, rfl, rfl, trivial⟩, ?_, ho4, hk24⟩
            rw [hk5] at hf4; exact hf4
          · rw [if_neg (by omega), if_neg (by omega), if_neg (by omega), if_neg (by omega)] at htk
            (repeat first | (apply wr_assign; exact rfl; with_reducible (conv => enter [6, 3]; whnf)) | apply wr_end | apply wc_seq | apply wc_region | apply wc_block | (apply wr_fieldAddr; iterate 2 exact rfl) | (apply wr_load; (iterate 3 exact rfl); (focus repeat first | with_reducible assumption | exact heap_alloc_same _ _ | exact World.putObj_heap_same (by first | omega | (simp only [World.size_alloc, World.putObj_size, ne_eq]; omega)) | ((first | refine hAl ?_ ?_ | refine hPu ?_ ?_); focus first | omega | (simp only [World.size_alloc, World.putObj_size, ne_eq]; omega))); exact rfl; conv => enter [6, 3]; whnf) | (apply wr_cmp; (iterate 3 exact rfl); exact cmpF (by dsimp only [cmpN]; first | done | omega)) | (apply wc_false; exact rfl) | (apply wc_ret; try simp only [thenE, inBlockE, bodyQ]))
            exact leave2 (v1 := .slice none 0 0) (v2 := .bool false) rfl rfl rfl ⟨by unfold rparseR; rw [heq, parseF_no hx (.inr htk)]; rfl, hk24⟩
        · rintro ds f w5 ⟨rfl, K, v, z, s', hT, hv, hz, hsl', hslots, hf5, ho5, hk5⟩
          refine wc_keep _ hslots ?_
          intro f1
          clear hslots htk hf4 ho4 hk4 hk24 hos4
          have hs5 := lt_of_heap hf5
          by_cases hlz : s'.length < z
          · rw [if_pos hlz] at hT
            (repeat first | (apply wr_move; exact rfl; with_reducible (conv => enter [6, 3]; whnf)) | (apply wr_assign; exact rfl; with_reducible (conv => enter [6, 3]; whnf)) | apply wr_end | apply wc_seq | apply wc_region | (apply wr_len_str; iterate 2 exact rfl) | (apply wr_cmp; (iterate 3 exact rfl); exact cmpT (by dsimp only [cmpP]; first | done | omega)) | (apply wr_conv; (iterate 2 exact rfl); exact w_fit (by dsimp only [kIn]; first | done | omega)) | (apply wc_true; exact rfl) | (apply wc_ret; try simp only [thenE, inBlockE, bodyQ]))
            exact leave2 (v1 := .slice none 0 0) (v2 := .bool false) rfl rfl rfl ⟨by unfold rparseR; rw [heq, parseF_no hx (.inl hT)]; rfl, hk5⟩
          · rw [if_neg hlz] at hT
            have htl := takeF_lt hT
            (repeat first | (apply wr_move; exact rfl; with_reducible (conv => enter [6, 3]; whnf)) | apply wr_end | apply wc_seq | apply wc_region | apply wc_skip | (apply wr_len_str; iterate 2 exact rfl) | (apply wr_cmp; (iterate 3 exact rfl); exact cmpF (by dsimp only [cmpN]; first | done | omega)) | (apply wr_conv; (iterate 2 exact rfl); exact w_fit (by dsimp only [kIn]; first | done | omega)) | (apply wc_false; exact rfl))
            refine wr_sl_to (j := z) rfl rfl rfl (by omega) ?_
            (repeat first | (apply wr_move; exact rfl; with_reducible (conv => enter [6, 3]; whnf)) | apply wr_end | apply wc_seq | apply wc_region | (apply wr_fieldAddr; iterate 2 exact rfl) | (apply wr_store; (iterate 3 exact rfl); (first | exact rfl | with_reducible assumption); (focus repeat first | with_reducible assumption | exact heap_alloc_same _ _ | exact World.putObj_heap_same (by first | omega | (simp only [World.size_alloc, World.putObj_size, ne_eq]; omega)) | ((first | refine hAl ?_ ?_ | refine hPu ?_ ?_); focus first | omega | (simp only [World.size_alloc, World.putObj_size, ne_eq]; omega))); exact rfl))
            refine wr_sl_from (i := z) rfl rfl rfl (by omega) ?_
            (repeat first | (apply wr_move; exact rfl; with_reducible (conv => enter [6, 3]; whnf)) | (apply wr_assign; exact rfl; with_reducible (conv => enter [6, 3]; whnf)) | apply wr_end | apply wc_region)
            refine wr_loadAll (cs := [.int .i64 ((tag / 8 : Nat) : Int), .int .i64 K, .int .u64 (v : Int), S (s'.take z)]) rfl rfl rfl (World.putObj_heap_same hs5) rfl ?_
            refine wr_buildSlice (vs := [.agg #[.int .i64 ((tag / 8 : Nat) : Int), .int .i64 K, .int .u64 (v : Int), S (s'.take z)]]) rfl rfl (by intro v hv; simp at hv; subst hv; rfl) rfl (by decide) (by decide) (by decide) ?_
            have ho6 := own_keep ho5 ((Keeps.refl (fun k => k = w3.heap.size) w5).put (b := w3.heap.size) (.cells #[.int .i64 ((tag / 8 : Nat) : Int), .int .i64 K, .int .u64 (v : Int), S (s'.take z)] 88 (0, 0)) (fun h => rfl)) (fun b hb h => by have := (ho.lt b hb).2; omega)
            refine wr_append (v := r) (n := acc.length) (m := 1) (news := [.int .i64 ((tag / 8 : Nat) : Int), .int .i64 K, .int .u64 (v : Int), S (s'.take z)]) rfl rfl (ho6.alloc _) rfl (heap_alloc_same _ _) rfl (by intro u hu; simp at hu; rcases hu with rfl | rfl | rfl | rfl <;> rfl) rfl (by decide) (by omega) (by omega) (by simp; omega) ?_
            intro r' w7 ho7 hk7 _
            (repeat first | (apply wr_assign; exact rfl; with_reducible (conv => enter [6, 3]; whnf)) | (apply wr_nil; try simp only [thenE, inBlockE, bodyQ]))
            refine ⟨(s'.drop z, acc ++ [⟨((tag / 8 : Nat) : Int), K, v, s'.take z⟩], r'), htl, ⟨by trivial, ?_, ?_, ?_, ?_⟩, rfl, rfl, trivial⟩
            · simp only [List.length_append, List.length_cons, List.length_nil]; omega
            · rw [heq, parseF_ok hx hT]
              cases parseF (s'.drop z) <;> simp
            · dsimp only
              rw [FL_snoc, List.length_append]; exact ho7
            · exact ((hk5.put _ (fun h => by omega)).alloc _).trans' hk7 fun j hj h => absurd (ho.lt j h).1 (by omega)
end Go.Proofs.YthlbgeonobicbaaDoor
