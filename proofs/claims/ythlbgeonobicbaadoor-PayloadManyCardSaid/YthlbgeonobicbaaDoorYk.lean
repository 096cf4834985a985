/- payload.Get: what it does. -/
import Derived.Test.YthlbgeonobicbaaDoorYj
namespace Go.Proofs.YthlbgeonobicbaaDoor
open Go Go.V Go.RowKit
set_option linter.unusedVariables false
set_option linter.unusedSimpArgs false

theorem GloN.of {w : World} {p q : Addr} (h : Glo w p q) : GloN w.heap.size w := by
  obtain ⟨l1, l2, l3⟩ := h.lts
  exact ⟨l1, p, q, h, l2, l3⟩
/-- What Get hands back. -/
def getR (kind : Int) (s : List UInt8) (v : Value) (w' : World) : Prop := ∃ (p : PL) (rv av : Value) (b : Bool), v = .tuple #[PlV p rv av, .bool b] ∧ PlS w' p rv av ∧ ((b = true ∧ getP kind s = some p) ∨ (b = false ∧ getP kind s = none ∧ p = PL0))
theorem PlS.zero (w : World) : PlS w PL0 (.slice none 0 0) (.slice none 0 0) := ⟨⟨rfl, none, 0, rfl, Nat.le_refl _, .inl ⟨rfl, fun _ => rfl⟩⟩, ⟨rfl, none, 0, rfl, Nat.le_refl _, .inl ⟨rfl, fun _ => rfl⟩⟩⟩
theorem FB_ne {w : World} {b base g : Nat} {B : Nat → Nat} {cs : List Value} (h : FB w b base B) (hg : FS w g cs) : ∀ i, i < 10 → B i ≠ g := by
  intro i hi e
  match i with
  | 0 => have := h.h0.1; rw [e, hg] at this; simp at this
  | 1 => have := h.h1.1; rw [e, hg] at this; simp at this
  | 2 => have := h.h2.1; rw [e, hg] at this; simp at this
  | 3 => have := h.h3.1; rw [e, hg] at this; simp at this
  | 4 => have := h.h4.1; rw [e, hg] at this; simp at this
  | 5 => have := h.h5.1; rw [e, hg] at this; simp at this
  | 6 => have := h.h6.1; rw [e, hg] at this; simp at this
  | 7 => have := h.h7.1; rw [e, hg] at this; simp at this
  | 8 => have := h.h3.2.1; rw [e, hg] at this; simp at this
  | 9 => have := h.h6.2.1; rw [e, hg] at this; simp at this
  | i + 10 => omega
abbrev PlZ : List Value := [S [], .int .u64 0, S [], .slice none 0 0, .int .u64 0, S [], .slice none 0 0, S []]
theorem PlC_one {p : PL} {rv av : Value} (hr : rv.oneCell' = true) (ha : av.oneCell' = true) : ∀ u ∈ PlC p rv av, u.oneCell' = true := by
  intro u hu
  simp [PlC] at hu
  rcases hu with rfl | rfl | rfl | rfl | rfl | rfl | rfl | rfl <;> first | rfl | exact hr | exact ha
set_option maxRecDepth 100000 in
set_option maxHeartbeats 4000000 in
theorem pGet_ca (kind : Int) (s : List UInt8) (hs : s.length ≤ 1000000000) {p q : Addr} {w : World} (hg : Glo w p q) :
    Ca Tryd.prog 15 #[.int .i64 kind, S s] w fun v w' => getR kind s v w' ∧ Keeps NoB w w' := by
  refine ca_of_body (args := [.int .i64 kind, S s]) Tryd.func15 rfl (by kernel_rfl) ?_
  (repeat first | (apply wr_move; exact rfl; with_reducible (conv => enter [6, 3]; whnf)) | (apply wr_assign; exact rfl; with_reducible (conv => enter [6, 3]; whnf)) | apply wr_end | apply wc_seq | apply wc_region | (apply wr_alloc; exact rfl))
  refine wr_call (vs := [.int .i64 kind]) rfl (has_ca kind _) rfl ?_
  rintro v w1 ⟨rfl, hk1⟩
  have hb1 : w1.heap[w.heap.size]? = some (.cells PlZ.toArray 26 (0, 0)) := hk1.heap (heap_alloc_same w (.cells (Value.agg PlZ.toArray).cells 26)) (fun h => h)
  have hkw1 := ((Keeps.refl NoB w).alloc (.cells (Value.agg PlZ.toArray).cells 26)).trans hk1
  clear hk1
  cases hok : (hasF kind).2 with
  | false =>
    have hnone : getP kind s = none := if_neg (by rw [hok]; decide)
    (repeat first | (apply wr_move; exact rfl; with_reducible (conv => enter [6, 3]; whnf)) | (apply wr_assign; exact rfl; with_reducible (conv => enter [6, 3]; whnf)) | apply wr_end | apply wc_seq | apply wc_region | (apply wr_not; iterate 2 exact rfl) | (apply wr_extract; (iterate 3 exact rfl); with_reducible (conv => enter [6, 3]; whnf)) | (apply wc_true; exact rfl))
    refine wr_build (ps := []) (cs := PlZ) rfl rfl rfl rfl ?_
    refine wr_storeAll (cs := PlZ) rfl rfl rfl (by intro u hu; simp at hu; rcases hu with rfl | rfl | rfl | rfl | rfl | rfl | rfl | rfl <;> rfl) hb1 rfl rfl ?_
    (repeat first | (apply wr_assign; exact rfl; with_reducible (conv => enter [6, 3]; whnf)) | apply wr_end | (apply wc_ret; try simp only [thenE, inBlockE, bodyQ]))
    exact leaveN (vs := [PlV PL0 (.slice none 0 0) (.slice none 0 0), .bool false]) (resv_cells (cs := PlZ) rfl rfl (World.putObj_heap_same (lt_of_heap hb1)) rfl (resv_tmp rfl resv_nil)) ⟨⟨PL0, _, _, false, rfl, PlS.zero _, .inr ⟨rfl, hnone, rfl⟩⟩, hkw1.put _ (fun h => by omega)⟩
  | true =>
    (repeat first | (apply wr_move; exact rfl; with_reducible (conv => enter [6, 3]; whnf)) | (apply wr_assign; exact rfl; with_reducible (conv => enter [6, 3]; whnf)) | apply wr_end | apply wc_seq | apply wc_region | apply wc_skip | (apply wr_not; iterate 2 exact rfl) | (apply wr_extract; (iterate 3 exact rfl); with_reducible (conv => enter [6, 3]; whnf)) | (apply wc_false; exact rfl))
    refine wr_call (vs := [.pointer (some ⟨w.heap.size, 0, none⟩)]) rfl (fields_ca2 w.heap.size _) rfl ?_
    rintro v w2 ⟨g, B, rfl, hFS, hFB, hgs, hk2⟩
    have hkw2 := hkw1.trans hk2
    have hb2 := hk2.heap hb1 (fun h => h)
    have hg2 := hg.keep hkw2 (fun i hi h => h)
    have hgl := lt_of_heap hFS
    have hb1l := lt_of_heap hb1
    obtain ⟨hasL, hhas⟩ : ∃ l, l = (hasF kind).1 := ⟨_, rfl⟩
    rw [← hhas]
    (repeat first | (apply wr_move; exact rfl; with_reducible (conv => enter [6, 3]; whnf)) | (apply wr_assign; exact rfl; with_reducible (conv => enter [6, 3]; whnf)) | apply wr_end | apply wc_seq | apply wc_region | apply wc_block | (apply wr_len_slice; iterate 2 exact rfl))
    refine wc_loopL (α := Nat) (fun k => [(1, S s), (4, .pointer (some ⟨w.heap.size, 0, none⟩)), (6, S hasL), (7, .slice (some ⟨g, 0, none⟩) 8 8), (19, .slice (some ⟨g, 0, none⟩) 8 8), (20, .int .i64 8), (21, .int .i64 (k : Int))])
      (fun k ds w' => ds = [] ∧ k ≤ 8 ∧ FS w' g ((curL hasL B k).flatMap G3) ∧ Keeps (· = g) w2 w') (fun k => 8 - k) 0 ⟨rfl, Nat.zero_le _, by rw [curL_zero, fldL_flat]; exact hFS, Keeps.refl _ _⟩ ⟨rfl, rfl, rfl, rfl, rfl, rfl, rfl, trivial⟩ ?_
    rintro k ds f0 w3 ⟨rfl, hk8, hFS3, hk3⟩
    have hs3 := hk3.size
    by_cases hlt : k < 8
    · obtain ⟨x, hx⟩ : ∃ x, (curL hasL B k)[k]? = some x := ⟨(curL hasL B k)[k]'(by simp [curL]; omega), by simp [curL, hlt]⟩
      obtain ⟨y, hy, hxy⟩ := curL_get hx
      obtain ⟨hlet, hlet1⟩ := lets_letter B hy
      obtain ⟨o1, o2, o3⟩ := curL_one hasL B k x (List.mem_of_getElem? hx)
      have hlx : x.1 = S (lets.getD k []) := by rw [hxy, (cF_parts _ _ _ _).1, hlet]
      obtain ⟨x1, x2, x3⟩ := x
      dsimp only at hlx o1 o2 o3
      subst hlx
      (repeat first | (apply wr_move; exact rfl; with_reducible (conv => enter [6, 3]; whnf)) | apply wr_end | apply wc_seq | apply wc_region | apply wc_skip | apply wc_block | (apply wr_cmp; (iterate 3 exact rfl); exact cmpT (by dsimp only [cmpP]; first | done | omega)) | (apply wc_true; exact rfl))
      refine wr_indexAddr (i := k) rfl rfl rfl hlt ?_
      refine wr_loadElem (G := G3) (n := 8) (l := curL hasL B k) rfl rfl G3_len rfl hFS3 (o := 0) (fun j hj => by rw [Nat.zero_add, List.getElem?_toArray]) hlt hx rfl ?_
      (repeat first | (apply wr_assign; exact rfl; with_reducible (conv => enter [6, 3]; whnf)) | (apply wr_alloc; exact rfl))
      refine wr_storeAll (cs := [S (lets.getD k []), x2, x3]) rfl rfl rfl (by intro u hu; simp at hu; rcases hu with rfl | rfl | rfl; exact o1; exact o2; exact o3) (heap_alloc_same _ _) rfl rfl ?_
      obtain ⟨w4, hw4⟩ : ∃ w4, w4 = (w3.alloc (.cells (Value.agg #[S [], .nilFunc, .nilFunc]).cells 79)).putObj w3.heap.size (.cells #[S (lets.getD k []), x2, x3] 79 (0, 0)) := ⟨_, rfl⟩
      have hk4 : Keeps NoB w3 w4 := by rw [hw4]; exact ((Keeps.refl NoB w3).alloc _).put _ (fun h => by omega)
      have hf4 : w4.heap[w3.heap.size]? = some (.cells #[S (lets.getD k []), x2, x3] 79 (0, 0)) := by rw [hw4]; exact World.putObj_heap_same (by simp)
      rw [← hw4]
      clear hw4
      (repeat first | (apply wr_move; exact rfl; with_reducible (conv => enter [6, 3]; whnf)) | apply wr_end | apply wc_seq | apply wc_region | (apply wr_fieldAddr; iterate 2 exact rfl) | (apply wr_load; (iterate 3 exact rfl); (focus repeat first | with_reducible assumption | exact heap_alloc_same _ _ | exact World.putObj_heap_same (by first | omega | (simp only [World.size_alloc, World.putObj_size, ne_eq]; omega)) | ((first | refine hAl ?_ ?_ | refine hPu ?_ ?_); focus first | omega | (simp only [World.size_alloc, World.putObj_size, ne_eq]; omega))); exact rfl; conv => enter [6, 3]; whnf))
      refine wr_call (vs := [S hasL, S (lets.getD k [])]) rfl (contains_ca hasL (lets.getD k []) hlet1 _) rfl ?_
      rintro v w5 ⟨rfl, hw5⟩
      subst hw5
      have hFS5 := hk4.heap hFS3 (fun h => h)
      have hk25 := hk3.trans' hk4 (fun i hi h => h.elim)
      cases hin : inF hasL (lets.getD k []) with
      | true =>
        (repeat first | (apply wr_move; exact rfl; with_reducible (conv => enter [6, 3]; whnf)) | apply wr_end | apply wc_region | apply wc_skip | (apply wr_not; iterate 2 exact rfl) | (apply wr_add; (iterate 3 exact rfl); exact w_fit (by dsimp only [kIn]; first | done | omega)) | (apply wc_false; exact rfl))
        exact ⟨k + 1, by omega, ⟨by trivial, hlt, by rw [curL_same hlt hin]; exact hFS5, hk25⟩, rfl, rfl, rfl, rfl, rfl, rfl, by simp, trivial⟩
      | false =>
        have hcell : ((curL hasL B k).flatMap G3)[k * 3 + 2]? = some x3 := by
          rw [flat_get G3_len _ k _ 2 hx (by decide)]; rfl
        have hgl5 := lt_of_heap hFS5
        (repeat first | (apply wr_move; exact rfl; with_reducible (conv => enter [6, 3]; whnf)) | apply wr_end | apply wc_region | (apply wr_not; iterate 2 exact rfl) | (apply wc_true; exact rfl))
        refine wr_indexAddr (i := k) rfl rfl rfl hlt ?_
        refine wr_fieldAddr rfl rfl ?_
        refine wr_store (v := noTake) rfl rfl rfl rfl hFS5 (by rw [Nat.zero_add, List.getElem?_toArray]; exact hcell) ?_
        (repeat first | (apply wr_move; exact rfl; with_reducible (conv => enter [6, 3]; whnf)) | apply wr_end | apply wc_region | (apply wr_add; (iterate 3 exact rfl); exact w_fit (by dsimp only [kIn]; first | done | omega)) | (apply wr_nil; try simp only [thenE, inBlockE, bodyQ]))
        refine ⟨k + 1, by omega, ⟨by trivial, hlt, ?_, hk25.put _ (fun _ => rfl)⟩, rfl, rfl, rfl, rfl, rfl, rfl, by simp, trivial⟩
        have e : (((curL hasL B k).flatMap G3).toArray.setIfInBounds (0 + k * 3 + 2) noTake) = ((curL hasL B (k + 1)).flatMap G3).toArray := by
          apply Array.toList_inj.1
          rw [Array.toList_setIfInBounds, curL_cut hx hin, flat_set3 _ k _ noTake hx, Nat.zero_add]
        rw [e]
        exact World.putObj_heap_same hgl5
    · have he : k = 8 := by omega
      subst he
      have hgn : g ≠ w.heap.size := by omega
      have hgk : Keeps (· = g) w2 w3 := hk3
      have hM := payMach (pb := w.heap.size) (g := g) (base := w3.heap.size) (fbase := w1.heap.size) (N := w.heap.size) (B := B) (has := hasL) (fun i hi => by have := hFB.lt i hi; omega) (by omega) hgn hb1l (by have := hk2.size; omega) (Nat.le_refl _)
      have hFB3 : FB w3 w.heap.size w1.heap.size B := hFB.keepB hk3 (FB_ne hFB hFS)
      have hst : PaySt w.heap.size g w3.heap.size w1.heap.size w.heap.size B hasL (PL0, .slice none 0 0, .slice none 0 0) w3 := ⟨hk3.heap hb2 (Ne.symm hgn), hFB3, hFS3, ⟨rfl, .inl ⟨rfl, rfl⟩⟩, ⟨rfl, .inl ⟨rfl, rfl⟩⟩, ((GloN.of hg).kin hkw2).keep hk3 (fun i hi e => by omega), Nat.le_refl _⟩
      have hkw3 : Keeps NoB w w3 := hkw2.trans' hk3 (fun i hi e => by omega)
      (repeat first | (apply wr_move; exact rfl; with_reducible (conv => enter [6, 3]; whnf)) | apply wr_end | apply wc_seq | apply wc_region | (apply wr_cmp; (iterate 3 exact rfl); exact cmpF (by dsimp only [cmpN]; first | done | omega)) | (apply wc_false; exact rfl) | (apply wc_exit; try simp only [thenE, inBlockE, bodyQ, ↓reduceIte, Nat.reduceEqDiff]))
      refine wr_call (vs := [S s, .slice (some ⟨g, 0, none⟩) 8 8]) rfl (ptake_ca hM s hs (PL0, .slice none 0 0, .slice none 0 0) ⟨fun _ => rfl, fun _ => rfl⟩ hst) rfl ?_
      rintro v w4 ⟨⟨p', rv, av⟩, hst4, hk4, _, hv⟩
      have hr1 := own_one hst4.r
      have ha1 := own_one hst4.a
      dsimp only at hr1 ha1
      have hx4 := hst4.x
      dsimp only at hx4
      have hx4l := lt_of_heap hx4
      have hkw4 : Keeps NoB w w4 := hkw3.trans' hk4 (fun i hi h => by
        rcases h with h | h | h
        · omega
        · simp [Value.ownBlock] at h
        · simp [Value.ownBlock] at h)
      have hgP : getP kind s = (parseF s).bind fun l => tkAll (tkPay hasL) l 8 0 PL0 := by unfold getP; rw [if_pos hok, ← hhas]
      rcases hv with ⟨rfl, hv⟩ | ⟨rfl, hv⟩
      · have hv' : getP kind s = some p' := hgP.trans hv
        (repeat first | apply wr_end | apply wc_seq | apply wc_region | apply wc_skip | (apply wr_not; iterate 2 exact rfl) | (apply wc_false; exact rfl))
        refine wr_loadAll (cs := PlC p' rv av) rfl rfl rfl hx4 rfl ?_
        refine wr_storeAll (cs := PlC p' rv av) rfl rfl rfl (PlC_one hr1 ha1) hx4 rfl rfl ?_
        (repeat first | (apply wr_assign; exact rfl; with_reducible (conv => enter [6, 3]; whnf)) | apply wr_end | (apply wc_ret; try simp only [thenE, inBlockE, bodyQ]))
        refine leaveN (vs := [PlV p' rv av, .bool true]) (resv_cells (cs := PlC p' rv av) rfl rfl (World.putObj_heap_same hx4l) rfl (resv_tmp rfl resv_nil)) ⟨⟨p', rv, av, true, rfl, ?_, .inl ⟨rfl, hv'⟩⟩, hkw4.put _ (fun h => by omega)⟩
        have hkp : Keeps (· = w.heap.size) w4 (w4.putObj w.heap.size (.cells (PlC p' rv av).toArray 26 (0, 0))) := (Keeps.refl _ w4).put _ (fun _ => rfl)
        exact ⟨(SlR.of_own hst4.r).keep hkp (fun b hb e => by have := (hst4.r.lt b hb).1; omega), (SlR.of_own hst4.a).keep hkp (fun b hb e => by have := (hst4.a.lt b hb).1; omega)⟩
      · have hv' : getP kind s = none := hgP.trans hv
        (repeat first | apply wr_end | apply wc_seq | apply wc_region | (apply wr_not; iterate 2 exact rfl) | (apply wc_true; exact rfl))
        refine wr_build (ps := []) (cs := PlZ) rfl rfl rfl rfl ?_
        refine wr_storeAll (cs := PlZ) rfl rfl rfl (by intro u hu; simp at hu; rcases hu with rfl | rfl | rfl | rfl | rfl | rfl | rfl | rfl <;> rfl) hx4 rfl rfl ?_
        (repeat first | (apply wr_assign; exact rfl; with_reducible (conv => enter [6, 3]; whnf)) | apply wr_end | (apply wc_ret; try simp only [thenE, inBlockE, bodyQ]))
        exact leaveN (vs := [PlV PL0 (.slice none 0 0) (.slice none 0 0), .bool false]) (resv_cells (cs := PlZ) rfl rfl (World.putObj_heap_same hx4l) rfl (resv_tmp rfl resv_nil)) ⟨⟨PL0, _, _, false, rfl, PlS.zero _, .inr ⟨rfl, hv', rfl⟩⟩, hkw4.put _ (fun h => by omega)⟩
end Go.Proofs.YthlbgeonobicbaaDoor
