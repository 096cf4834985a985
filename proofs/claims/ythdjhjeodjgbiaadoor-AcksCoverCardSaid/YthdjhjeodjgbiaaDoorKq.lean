/- AcksRefused. -/
import Derived.Test.YthdjhjeodjgbiaaDoorKp
namespace Go.Proofs.YthdjhjeodjgbiaaDoor
open Go Go.V Go.RowKit
set_option linter.unusedVariables false
set_option linter.unusedSimpArgs false

structure RInv (B : List BD) (met : Nat → Bool) (many : Nat) : Prop where
  srt : B.Pairwise fun a b => a.1 < b.1
  few : B.length ≤ 8
  i1 : ∀ x ∈ B, met x.1 = true
  i2 : ∀ r, met r = true → ∀ x ∈ B, x.1 < r → hasB B r = true
  i3 : B.length = min many 8
  i4 : ∀ x ∈ B, x.2.2 = false
  i6 : B.length < 8 → ∀ r, met r = true → hasB B r = true
def setMet (met : Nat → Bool) (q : Nat) : Nat → Bool := fun x => if x = q then true else met x
theorem insB_len (l : List BD) (x : BD) : (insB l x).length = l.length + 1 := by
  unfold insB
  rw [List.length_append, List.length_cons]
  have h : ∀ l : List BD, (l.filter fun y => decide (y.1 < x.1)).length + (l.filter fun y => decide ¬ y.1 < x.1).length = l.length := fun l => by
    induction l with
    | nil => rfl
    | cons a l ih =>
      by_cases ha : a.1 < x.1
      · rw [List.filter_cons_of_pos (by simpa using ha), List.filter_cons_of_neg (by simpa using ha), List.length_cons, List.length_cons]; omega
      · rw [List.filter_cons_of_neg (by simpa using ha), List.filter_cons_of_pos (by simpa using ha), List.length_cons, List.length_cons]; omega
  have := h l
  omega
theorem mem_insB {l : List BD} {x y : BD} : y ∈ insB l x ↔ y = x ∨ y ∈ l := by
  unfold insB
  rw [List.mem_append, List.mem_cons, List.mem_filter, List.mem_filter]
  constructor
  · rintro (⟨h, _⟩ | h | ⟨h, _⟩)
    · exact .inr h
    · exact .inl h
    · exact .inr h
  · rintro (h | h)
    · exact .inr (.inl h)
    · by_cases hy : y.1 < x.1
      · exact .inl ⟨h, by simpa using hy⟩
      · exact .inr (.inr ⟨h, by simpa using hy⟩)
theorem RInv.step {B : List BD} {met : Nat → Bool} {many : Nat} (h : RInv B met many) (q : Nat) (d : TT) : RInv (refuseP B q d) (setMet met q) (if met q = true then many else many + 1) := by
  unfold refuseP
  by_cases hq : hasB B q = true
  · rw [if_pos hq]
    obtain ⟨x, hx, hxq⟩ := hasB_iff.1 hq
    have hm : met q = true := by rw [← hxq]; exact h.i1 x hx
    have hs : setMet met q = met := by
      funext r
      unfold setMet
      by_cases hr : r = q
      · rw [if_pos hr, hr, hm]
      · rw [if_neg hr]
    rw [hs, if_pos hm]
    exact h
  · rw [if_neg hq]
    have hsrt := insB_sort (x := (q, d, false)) h.srt hq
    have hlen := insB_len B (q, d, false)
    have hmet : ∀ r, setMet met q r = true ↔ r = q ∨ met r = true := fun r => by
      unfold setMet
      by_cases hr : r = q
      · simp [hr]
      · simp [hr]
    have hhas : ∀ r, hasB (insB B (q, d, false)) r = true ↔ r = q ∨ hasB B r = true := fun r => by
      rw [hasB_iff, hasB_iff]
      constructor
      · rintro ⟨x, hx, e⟩
        rcases mem_insB.1 hx with rfl | hx
        · exact .inl e.symm
        · exact .inr ⟨x, hx, e⟩
      · rintro (rfl | ⟨x, hx, e⟩)
        · exact ⟨_, mem_insB.2 (.inl rfl), rfl⟩
        · exact ⟨x, mem_insB.2 (.inr hx), e⟩
    have hm1 : ∀ x ∈ insB B (q, d, false), setMet met q x.1 = true := fun x hx => by
      rw [hmet]
      rcases mem_insB.1 hx with rfl | hx
      · exact .inl rfl
      · exact .inr (h.i1 x hx)
    have ht1 : ∀ x ∈ insB B (q, d, false), x.2.2 = false := fun x hx => by
      rcases mem_insB.1 hx with rfl | hx
      · rfl
      · exact h.i4 x hx
    have hfew := h.few
    have h3 := h.i3
    by_cases hl : B.length < 8
    · have hnm : ¬ met q = true := fun e => hq (h.i6 hl q e)
      rw [show B.length + 1 - 8 = 0 by omega, List.drop_zero, if_neg hnm]
      refine ⟨hsrt, by omega, hm1, fun r hr x hx hxr => ?_, by omega, ht1, fun _ r hr => ?_⟩
      · rw [hhas]
        rcases (hmet r).1 hr with h1 | h1
        · exact .inl h1
        · exact .inr (h.i6 hl r h1)
      · rw [hhas]
        rcases (hmet r).1 hr with h1 | h1
        · exact .inl h1
        · exact .inr (h.i6 hl r h1)
    · rw [show B.length + 1 - 8 = 1 by omega]
      have hsub : ∀ x ∈ (insB B (q, d, false)).drop 1, x ∈ insB B (q, d, false) := fun x hx => List.mem_of_mem_drop hx
      refine ⟨hsrt.sublist (List.drop_sublist _ _), by rw [List.length_drop]; omega, fun x hx => hm1 x (hsub x hx), fun r hr x hx hxr => ?_, ?_, fun x hx => ht1 x (hsub x hx), fun hlt => ?_⟩
      · cases hB : insB B (q, d, false) with
        | nil => rw [hB] at hlen; simp at hlen
        | cons b B' =>
          rw [hB] at hx hsrt
          rw [List.drop_succ_cons, List.drop_zero] at hx ⊢
          have hbx := (List.pairwise_cons.1 hsrt).1 x hx
          have hall : hasB (b :: B') r = true := by
            rw [← hB, hhas]
            rcases (hmet r).1 hr with h1 | h1
            · exact .inl h1
            · right
              have hxm : x ∈ insB B (q, d, false) := by rw [hB]; exact List.mem_cons_of_mem _ hx
              rcases mem_insB.1 hxm with rfl | hxB
              · have hbm : b ∈ insB B (q, d, false) := by rw [hB]; exact List.mem_cons_self
                rcases mem_insB.1 hbm with rfl | hbB
                · omega
                · exact h.i2 r h1 b hbB (by omega)
              · exact h.i2 r h1 x hxB hxr
          obtain ⟨y, hy, hyr⟩ := hasB_iff.1 hall
          rcases List.mem_cons.1 hy with rfl | hy
          · omega
          · exact hasB_iff.2 ⟨y, hy, hyr⟩
      · rw [List.length_drop, hlen]
        split <;> omega
      · rw [List.length_drop] at hlt
        omega
theorem min_int (a b : Nat) : (if (b : Int) < (a : Int) then (b : Int) else (a : Int)) = ((min a b : Nat) : Int) := by
  rcases Nat.le_total a b with h | h
  · rw [Nat.min_eq_left h, if_neg (by omega)]
  · rw [Nat.min_eq_right h]
    split <;> omega
def badO (o : Option PN) : List BD := (o.map (·.bad)).getD []
theorem outB_all {k : KY} {l : List BD} (h : ∀ x ∈ l, x.2.2 = false) : outB k l l.length = l.map fun b => (k, b.1, false, b.2.1) := by
  unfold outB
  rw [List.take_length]
  congr 1
  rw [List.filter_eq_self]
  intro x hx
  simp [h x hx]
theorem outB_told (k : KY) (l : List BD) (i : Nat) : outB k (l.map tl) i = [] := by
  unfold outB
  rw [List.map_eq_nil_iff, List.filter_eq_nil_iff]
  intro x hx
  obtain ⟨y, _, rfl⟩ := List.mem_map.1 (List.mem_of_mem_take hx)
  simp [tl]
theorem stOkR (q : Nat) (d : TT) (h : 1 ≤ q) (hd : d.length ≤ 256) : stOk (kK, q, false, d) := ⟨kK_ok, by show ([107] : TT) ≠ [42]; decide, h, hd, fun h => by cases h⟩
set_option maxRecDepth 100000 in
set_option maxHeartbeats 8000000 in
theorem refused_law (bl : List Nat) (v0 : Value) (w : World) (hv : SlR w 1 v0 bl.length (IB bl)) (h8 : ∀ z ∈ bl, z < 256) :
    Ca Tryd.prog 4 #[v0] w fun v w' => v = .bool true ∧ Keeps NoB w w' := by
  obtain ⟨va, vc, rfl, hvl, hvm⟩ := hv.shape
  refine ca_of_body (args := [.slice va bl.length vc]) Tryd.func4 rfl (by kernel_rfl) ?_
  (repeat first | (apply wr_assign; exact rfl; with_reducible (conv => enter [6, 3]; whnf)) | apply wr_end | apply wc_seq | apply wc_region)
  refine wr_call (vs := []) rfl (examples_ca w) rfl ?_
  rintro v w0 ⟨rfl, hk0⟩
  (repeat first | (apply wr_move; exact rfl; with_reducible (conv => enter [6, 3]; whnf)) | (apply wr_assign; exact rfl; with_reducible (conv => enter [6, 3]; whnf)) | apply wr_end | apply wc_seq | apply wc_region | apply wc_skip | (apply wr_not; iterate 2 exact rfl) | (apply wc_false; exact rfl))
  refine wr_call (vs := []) rfl (new_ca w0) rfl ?_
  rintro v w1 ⟨ab, mb, rfl, h1, hk1, hmb, hab⟩
  have hA1 : Above w0.heap.size mb [] := Above.nil hmb
  have hz1 := hk1.size
  (repeat first | (apply wr_move; exact rfl; with_reducible (conv => enter [6, 3]; whnf)) | (apply wr_assign; exact rfl; with_reducible (conv => enter [6, 3]; whnf)) | apply wr_end | apply wc_seq | apply wc_region)
  refine wr_ptrNil rfl rfl ?_
  (repeat first | apply wr_end | apply wc_seq | apply wc_region | apply wc_skip | (apply wc_false; exact rfl))
  refine wr_build (ps := [(0, .int .i64 kK.1), (1, S kK.2)]) (cs := [.int .i64 kK.1, S kK.2]) rfl rfl rfl rfl ?_
  (repeat first | (apply wr_alloc; exact rfl))
  refine wr_storeAll (cs := [.int .i64 kK.1, S kK.2]) rfl rfl rfl (by intro u hu; simp at hu; rcases hu with rfl | rfl <;> rfl) (heap_alloc_same _ _) rfl rfl ?_
  refine wr_name ?_
  intro w2 hww2
  obtain ⟨bw2, hbw2⟩ : ∃ b, b = (w1).heap.size := ⟨_, rfl⟩
  have hkw2 : Keeps NoB w1 w2 := by rw [hww2]; exact ((Keeps.refl NoB w1).alloc _).put _ (fun h => by omega)
  have hcw2 : (w2).heap[bw2]? = some (.cells #[.int .i64 kK.1, S kK.2] 27 (0, 0)) := by rw [hww2, hbw2]; exact World.putObj_heap_same (by simp)
  rw [← hbw2]
  clear hww2
  have hz2 := hkw2.size
  (repeat first | apply wr_end | apply wc_seq | apply wc_region)
  refine wr_makeN (n := 31) w2.heap.size rfl rfl rfl rfl rfl (by decide) (by decide) (Nat.le_refl _) ?_
  intro vm w3 hom hk3 hne3
  rcases own_cases hom with ⟨e, _⟩ | ⟨bm, mcap, rfl⟩
  · exact absurd e hne3
  obtain ⟨mcur0, hcm3, hmrd0⟩ := own_at hom
  have hbm := (hom.lt bm rfl).1
  have hK3 := (hk1.trans hkw2).trans hk3
  (repeat first | (apply wr_assign; exact rfl; with_reducible (conv => enter [6, 3]; whnf)) | apply wr_end | apply wc_seq | apply wc_region | apply wc_block)
  refine wc_loopL (α := Nat × List (KY × ND) × (Nat → Bool) × Nat) (fun p => [(0, .slice va bl.length vc), (3, .bool true), (4, .pointer (some ⟨ab, 0, none⟩)), (5, .pointer (some ⟨bw2, 0, none⟩)), (6, .slice (some ⟨bm, 0, none⟩) 31 mcap), (7, .int .i64 (p.2.2.2 : Int)), (8, .int .i64 (p.1 : Int))])
    (fun p ds w' => ds = [] ∧ p.1 ≤ 20 ∧ AcksAt w' w0.heap.size ab mb p.2.1 ∧ (RInv (badO (getL (PL p.2.1) kK)) p.2.2.1 p.2.2.2 ∧ p.2.2.2 ≤ p.1) ∧ w'.heap[bw2]? = some (.cells #[.int .i64 kK.1, S kK.2] 27 (0, 0)) ∧ (∃ mcur, w'.heap[bm]? = some (.cells mcur 4 (0, 0)) ∧ ∀ j, j < 31 → mcur[0 + j * 1]? = some (.bool (p.2.2.1 j))) ∧ Above w0.heap.size mb p.2.1 ∧ Keeps NoB w0 w' ∧ (∀ r, p.2.2.1 r = true → 1 ≤ r ∧ r ≤ 30) ∧ ((getL (PL p.2.1) kK) = none → p.2.2.2 = 0))
    (fun p => 20 - p.1) (0, [], (fun _ => false), 0)
    ⟨rfl, by decide, (h1.keep hkw2).keep hk3, ⟨⟨List.Pairwise.nil, by decide, (fun x hx => by cases hx), (fun r hr => by cases hr), rfl, (fun x hx => by cases hx), (fun _ r hr => by cases hr)⟩, Nat.le_refl _⟩, hk3.heap hcw2 (fun h => h), ⟨mcur0, hcm3, fun j hj => by
      rw [Nat.mul_one, hmrd0 j (by omega), List.getElem?_replicate, if_pos hj]⟩, hA1, hK3, (fun r hr => by cases hr), fun _ => rfl⟩ ⟨rfl, rfl, rfl, rfl, rfl, rfl, rfl, trivial⟩ ?_
  rintro ⟨i, L, met, many⟩ ds f0 w4 ⟨rfl, hi20, h4, ⟨hR4, hmi⟩, hck4, ⟨mcur, hcm4, hmrd⟩, hA4, hK4, hmb4, hno4⟩
  dsimp only at hi20 h4 hR4 hmi hck4 hcm4 hmrd hA4 hmb4 hno4 ⊢
  by_cases hgo : i < bl.length ∧ i < 20
  · obtain ⟨hlt, hlt20⟩ := hgo
    obtain ⟨z, hz⟩ : ∃ z, bl[i]? = some z := ⟨bl[i], by simp [hlt]⟩
    have hz8 := h8 z (List.mem_of_getElem? hz)
    have hzc : (IB bl)[i]? = some (.int .u8 (z : Int)) := by simp [IB, hz]
    obtain ⟨vb, vo, rfl, cur, e, fr, hvb, hvr⟩ := hvm (by omega)
    have hvb4 := (hk0.trans hK4).heap hvb (fun h => h)
    obtain ⟨q, hq⟩ : ∃ q, q = 1 + z % 30 := ⟨_, rfl⟩
    (repeat first | (apply wr_move; exact rfl; with_reducible (conv => enter [6, 3]; whnf)) | apply wr_end | apply wc_seq | apply wc_region | apply wc_skip | apply wc_block | (apply wr_len_slice; iterate 2 exact rfl) | (apply wr_cmp; (iterate 3 exact rfl); exact cmpT (by dsimp only [cmpP]; first | done | omega)) | (apply wr_pick (t := true); (iterate 2 exact rfl); with_reducible (conv => enter [6, 3]; whnf)) | (apply wc_true; exact rfl))
    refine wr_indexAddr (i := i) rfl rfl rfl hlt ?_
    refine wr_load (v := .int .u8 (z : Int)) rfl rfl rfl hvb4 (by rw [Nat.mul_one, hvr _ (by omega)]; exact hzc) ?_
    refine wr_remN (n := z) (m := 30) rfl rfl rfl (by decide) ?_
    refine wr_conv (c := ((z % 30 : Nat) : Int)) rfl rfl (w_i64 (by omega)) ?_
    refine wr_add (c := (q : Int)) rfl rfl rfl (by rw [w_i64 (by omega)]; omega) ?_
    (repeat first | (apply wr_move; exact rfl; with_reducible (conv => enter [6, 3]; whnf)) | (apply wr_assign; exact rfl; with_reducible (conv => enter [6, 3]; whnf)) | apply wr_end | apply wc_seq | apply wc_region)
    refine wr_indexAddr (i := q) rfl rfl rfl (by omega) ?_
    refine wr_load (v := .bool (met q)) rfl rfl rfl hcm4 (hmrd q (by omega)) ?_
    by_cases hmq : met q = true
    · rw [hmq]
      (repeat first | (apply wr_move; exact rfl; with_reducible (conv => enter [6, 3]; whnf)) | (apply wr_assign; exact rfl; with_reducible (conv => enter [6, 3]; whnf)) | apply wr_end | apply wc_seq | apply wc_region | (apply wc_true; exact rfl))
      skip
      refine wr_indexAddr (i := q) rfl rfl rfl (by omega) ?_
      refine wr_store (v := .bool true) rfl rfl rfl rfl hcm4 (hmrd q (by omega)) ?_
      refine wr_name ?_
      intro w5 hw5
      have hk5 : Keeps (· = bm) w4 w5 := by rw [hw5]; exact (Keeps.refl _ w4).put _ (fun _ => rfl)
      have hcm5 : w5.heap[bm]? = some (.cells (mcur.setIfInBounds (0 + q * 1) (.bool true)) 4 (0, 0)) := by rw [hw5]; exact World.putObj_heap_same (lt_of_heap hcm4)
      clear hw5
      have h5 := h4.keepC hk5 hcm4 (by decide) (by decide) (by decide)
      have hck5 := hk5.heap hck4 (ty_ne hck4 hcm4 (by decide))
      have hK5 : Keeps NoB w0 w5 := hK4.trans' hk5 (fun q hq e => by omega)
      have hs5 := hK5.size
      (repeat first | (apply wr_move; exact rfl; with_reducible (conv => enter [6, 3]; whnf)) | apply wr_end | apply wc_region)
      refine wr_remN (n := i) (m := 3) rfl rfl rfl (by decide) ?_
      (repeat first | (apply wr_add; (iterate 3 exact rfl); exact w_fit (by dsimp only [kIn]; first | done | omega)))
      refine wr_loadAll (cs := [.int .i64 kK.1, S kK.2]) rfl rfl rfl hck5 rfl ?_
      (repeat first | (apply wr_move; exact rfl; with_reducible (conv => enter [6, 3]; whnf)) | (apply wr_conv; (iterate 2 exact rfl); exact w_fit (by dsimp only [kIn]; first | done | omega)))
      refine wr_build (ps := [(0, .agg #[.int .i64 kK.1, S kK.2]), (1, .int .u64 ((q : Nat) : Int)), (3, S [97, 103, 97, 105, 110])]) (cs := GS (kK, q, false, [97, 103, 97, 105, 110])) rfl rfl rfl rfl ?_
      refine wr_call (vs := [.pointer (some ⟨ab, 0, none⟩), .int .i64 (1 + ((i % 3 : Nat) : Int)), SdV (kK, q, false, [97, 103, 97, 105, 110])]) rfl (note_ca h5 (by omega) (1 + ((i % 3 : Nat) : Int)) (kK, q, false, [97, 103, 97, 105, 110]) (by simp) (by simp) (by show q < _; omega)) rfl ?_
      rintro v w6 (⟨hno, _, _⟩ | ⟨_, rfl, L6, h6, hp6, hk6, hs6⟩)
      focus exact absurd ⟨stOkR q _ (by omega) (by decide), by unfold idOk; omega⟩ hno
      have hck6 := hk6.heap hck5 (h5.free hck5 (by decide) (by decide))
      have hcm6 := hk6.heap hcm5 (h5.free hcm5 (by decide) (by decide))
      have hst := hR4.step q [97, 103, 97, 105, 110]
      rw [if_pos hmq] at hst
      (repeat first | (apply wr_move; exact rfl; with_reducible (conv => enter [6, 3]; whnf)) | (apply wr_assign; exact rfl; with_reducible (conv => enter [6, 3]; whnf)) | apply wr_end | apply wc_region | (apply wr_add; (iterate 3 exact rfl); exact w_fit (by dsimp only [kIn]; first | done | omega)) | (apply wr_nil; try simp only [thenE, inBlockE, bodyQ]))
      refine ⟨(i + 1, L6, setMet met q, many), by dsimp only; omega, ⟨by trivial, by dsimp only; omega, h6, ?_, hck6, ⟨_, hcm6, fun j hj => ?_⟩, hA4.sub hs6 (by omega), hA4.keeps hK5 hk6, ?_, fun e => ?_⟩, rfl, rfl, rfl, rfl, rfl, rfl, rfl, trivial⟩
      focus
        dsimp only
        rw [hp6]
        have e1 : badO (getL (putL (PL L) kK (noteP ((getL (PL L) kK).getD PN.new) (1 + ((i % 3 : Nat) : Int)) (kK, q, false, [97, 103, 97, 105, 110]))) kK) = refuseP (badO (getL (PL L) kK)) q [97, 103, 97, 105, 110] := by
          rw [getL_put, if_pos rfl]
          cases getL (PL L) kK <;> rfl
        exact ⟨e1 ▸ hst, by omega⟩
      focus
        dsimp only
        rw [Array.getElem?_setIfInBounds]
        unfold setMet
        by_cases hjq : j = q
        · have hsz := (Array.getElem?_eq_some_iff.1 (hmrd q (by omega))).1
          rw [if_pos (by omega), if_pos (by omega), if_pos hjq]
        · rw [if_neg (by omega), if_neg hjq]
          have := hmrd j hj
          simpa using this
      focus
        dsimp only
        intro r hr
        unfold setMet at hr
        by_cases hrq : r = q
        · omega
        · rw [if_neg hrq] at hr
          exact hmb4 r hr
      dsimp only
      dsimp only at e
      rw [hp6, getL_put, if_pos rfl] at e
      cases e
    · rw [show met q = false by simpa using hmq]
      (repeat first | (apply wr_move; exact rfl; with_reducible (conv => enter [6, 3]; whnf)) | (apply wr_assign; exact rfl; with_reducible (conv => enter [6, 3]; whnf)) | apply wr_end | apply wc_seq | apply wc_region | (apply wr_add; (iterate 3 exact rfl); exact w_fit (by dsimp only [kIn]; first | done | omega)) | (apply wc_false; exact rfl))
      skip
      refine wr_indexAddr (i := q) rfl rfl rfl (by omega) ?_
      refine wr_store (v := .bool true) rfl rfl rfl rfl hcm4 (hmrd q (by omega)) ?_
      refine wr_name ?_
      intro w5 hw5
      have hk5 : Keeps (· = bm) w4 w5 := by rw [hw5]; exact (Keeps.refl _ w4).put _ (fun _ => rfl)
      have hcm5 : w5.heap[bm]? = some (.cells (mcur.setIfInBounds (0 + q * 1) (.bool true)) 4 (0, 0)) := by rw [hw5]; exact World.putObj_heap_same (lt_of_heap hcm4)
      clear hw5
      have h5 := h4.keepC hk5 hcm4 (by decide) (by decide) (by decide)
      have hck5 := hk5.heap hck4 (ty_ne hck4 hcm4 (by decide))
      have hK5 : Keeps NoB w0 w5 := hK4.trans' hk5 (fun q hq e => by omega)
      have hs5 := hK5.size
      (repeat first | (apply wr_move; exact rfl; with_reducible (conv => enter [6, 3]; whnf)) | apply wr_end | apply wc_region)
      refine wr_remN (n := i) (m := 3) rfl rfl rfl (by decide) ?_
      (repeat first | (apply wr_add; (iterate 3 exact rfl); exact w_fit (by dsimp only [kIn]; first | done | omega)))
      refine wr_loadAll (cs := [.int .i64 kK.1, S kK.2]) rfl rfl rfl hck5 rfl ?_
      (repeat first | (apply wr_move; exact rfl; with_reducible (conv => enter [6, 3]; whnf)) | (apply wr_conv; (iterate 2 exact rfl); exact w_fit (by dsimp only [kIn]; first | done | omega)))
      refine wr_build (ps := [(0, .agg #[.int .i64 kK.1, S kK.2]), (1, .int .u64 ((q : Nat) : Int)), (3, S [102, 105, 114, 115, 116])]) (cs := GS (kK, q, false, [102, 105, 114, 115, 116])) rfl rfl rfl rfl ?_
      refine wr_call (vs := [.pointer (some ⟨ab, 0, none⟩), .int .i64 (1 + ((i % 3 : Nat) : Int)), SdV (kK, q, false, [102, 105, 114, 115, 116])]) rfl (note_ca h5 (by omega) (1 + ((i % 3 : Nat) : Int)) (kK, q, false, [102, 105, 114, 115, 116]) (by simp) (by simp) (by show q < _; omega)) rfl ?_
      rintro v w6 (⟨hno, _, _⟩ | ⟨_, rfl, L6, h6, hp6, hk6, hs6⟩)
      focus exact absurd ⟨stOkR q _ (by omega) (by decide), by unfold idOk; omega⟩ hno
      have hck6 := hk6.heap hck5 (h5.free hck5 (by decide) (by decide))
      have hcm6 := hk6.heap hcm5 (h5.free hcm5 (by decide) (by decide))
      have hst := hR4.step q [102, 105, 114, 115, 116]
      rw [if_neg hmq] at hst
      (repeat first | (apply wr_move; exact rfl; with_reducible (conv => enter [6, 3]; whnf)) | (apply wr_assign; exact rfl; with_reducible (conv => enter [6, 3]; whnf)) | apply wr_end | apply wc_region | (apply wr_add; (iterate 3 exact rfl); exact w_fit (by dsimp only [kIn]; first | done | omega)) | (apply wr_nil; try simp only [thenE, inBlockE, bodyQ]))
      refine ⟨(i + 1, L6, setMet met q, many + 1), by dsimp only; omega, ⟨by trivial, by dsimp only; omega, h6, ?_, hck6, ⟨_, hcm6, fun j hj => ?_⟩, hA4.sub hs6 (by omega), hA4.keeps hK5 hk6, ?_, fun e => ?_⟩, rfl, rfl, rfl, rfl, rfl, rfl, rfl, trivial⟩
      focus
        dsimp only
        rw [hp6]
        have e1 : badO (getL (putL (PL L) kK (noteP ((getL (PL L) kK).getD PN.new) (1 + ((i % 3 : Nat) : Int)) (kK, q, false, [102, 105, 114, 115, 116]))) kK) = refuseP (badO (getL (PL L) kK)) q [102, 105, 114, 115, 116] := by
          rw [getL_put, if_pos rfl]
          cases getL (PL L) kK <;> rfl
        exact ⟨e1 ▸ hst, by omega⟩
      focus
        dsimp only
        rw [Array.getElem?_setIfInBounds]
        unfold setMet
        by_cases hjq : j = q
        · have hsz := (Array.getElem?_eq_some_iff.1 (hmrd q (by omega))).1
          rw [if_pos (by omega), if_pos (by omega), if_pos hjq]
        · rw [if_neg (by omega), if_neg hjq]
          have := hmrd j hj
          simpa using this
      focus
        dsimp only
        intro r hr
        unfold setMet at hr
        by_cases hrq : r = q
        · omega
        · rw [if_neg hrq] at hr
          exact hmb4 r hr
      dsimp only
      dsimp only at e
      rw [hp6, getL_put, if_pos rfl] at e
      cases e
  have hex : ¬ i < bl.length ∨ (i < bl.length ∧ ¬ i < 20) := by omega
  have hs4 := hK4.size
  obtain ⟨B, hBe⟩ : ∃ B, B = badO (getL (PL L) kK) := ⟨_, rfl⟩
  rw [← hBe] at hR4
  have houts : outsP (getL (PL L) kK) kK [] = B.map fun b => (kK, b.1, false, b.2.1) := by
    rw [← outB_all hR4.i4, hBe]
    cases getL (PL L) kK with
    | none => rfl
    | some p =>
      show readyO kK p 0 = outB kK p.bad p.bad.length
      unfold readyO
      rw [if_neg (by omega), List.append_nil]
  have hBl := hR4.i3
  rcases hex with hex | ⟨hex1, hex2⟩
  all_goals
    (repeat first | (apply wr_move; exact rfl; with_reducible (conv => enter [6, 3]; whnf)) | apply wr_end | apply wc_seq | apply wc_region | (apply wr_len_slice; iterate 2 exact rfl) | (apply wr_cmp; (iterate 3 exact rfl); exact cmpT (by dsimp only [cmpP]; first | done | omega)) | (apply wr_cmp; (iterate 3 exact rfl); exact cmpF (by dsimp only [cmpN]; first | done | omega)) | (apply wr_pick (t := true); (iterate 2 exact rfl); with_reducible (conv => enter [6, 3]; whnf)) | (apply wr_pick (t := false); (iterate 2 exact rfl); with_reducible (conv => enter [6, 3]; whnf)) | (apply wc_false; exact rfl) | (apply wc_exit; try simp only [thenE, inBlockE, bodyQ, ↓reduceIte, Nat.reduceEqDiff]) | (apply wr_skip; exact rfl))
    refine wr_loadAll (cs := [.int .i64 kK.1, S kK.2]) rfl rfl rfl hck4 rfl ?_
    refine wr_call (vs := [.pointer (some ⟨ab, 0, none⟩), encK kK, .slice none 0 0]) rfl (ready_ca h4 kK [] _ (slR_nil _ _) (by decide) (fun q hq => by cases hq) (fun q hq => by cases hq)) rfl ?_
    rintro r5 w5 ⟨L5, h5, hp5, ho5, hk5, hs5⟩
    rw [houts] at ho5
    have hck5 := hk5.heap hck4 (h4.free hck4 (by decide) (by decide))
    have hcm5 := hk5.heap hcm4 (h4.free hcm4 (by decide) (by decide))
    have hK5 := hA4.keeps hK4 hk5
    have hA5 := hA4.sub hs5 hs4
    have hs5' := hK5.size
    obtain ⟨ra, rc, rfl, hrr⟩ := own_row ho5
    rw [List.length_map] at hrr ⊢
    have hB8 := hR4.few
    (repeat first | (apply wr_move; exact rfl; with_reducible (conv => enter [6, 3]; whnf)) | (apply wr_assign; exact rfl; with_reducible (conv => enter [6, 3]; whnf)) | apply wr_end | apply wc_seq | apply wc_region | (apply wr_len_slice; iterate 2 exact rfl))
    refine wr_min (c := ((min many 8 : Nat) : Int)) rfl rfl rfl (min_int many 8) ?_
    (repeat first | (apply wr_move; exact rfl; with_reducible (conv => enter [6, 3]; whnf)) | (apply wr_assign; exact rfl; with_reducible (conv => enter [6, 3]; whnf)) | apply wr_end | apply wc_seq | apply wc_region | apply wc_skip | apply wc_block | (apply wr_len_slice; iterate 2 exact rfl) | (apply wr_cmp; (iterate 3 exact rfl); exact cmpF (by dsimp only [cmpN]; first | done | omega)) | (apply wr_sub; (iterate 3 exact rfl); exact w_fit (by dsimp only [kIn]; first | done | omega)) | (apply wc_false; exact rfl))
    refine wc_loopL (α := Nat × Nat) (fun p => [(3, .bool true), (4, .pointer (some ⟨ab, 0, none⟩)), (5, .pointer (some ⟨bw2, 0, none⟩)), (6, .slice (some ⟨bm, 0, none⟩) 31 mcap), (11, .slice ra B.length rc), (12, .int .i64 (p.2 : Int)), (13, .int .i64 ((p.1 : Int) - 1))])
      (fun p ds w' => ds = [] ∧ w' = w5 ∧ p.1 ≤ B.length ∧ p.2 ≤ 30 ∧ (∀ (r : Nat) (x : BD), B[r]? = some x → p.1 ≤ r → p.2 < x.1) ∧ (∀ (r : Nat) (x : BD), B[r]? = some x → r < p.1 → x.1 ≤ p.2)) (fun p => p.1) (B.length, 30)
      ⟨rfl, rfl, Nat.le_refl _, Nat.le_refl _, fun r x hx hr => by have := (List.getElem?_eq_some_iff.1 hx).1; dsimp only at hr; omega, fun r x hx _ => (hmb4 _ (hR4.i1 x (List.mem_of_getElem? hx))).2⟩ ⟨rfl, rfl, rfl, rfl, rfl, rfl, rfl, trivial⟩ ?_
    rintro ⟨j, sq⟩ ds f1 w6 ⟨rfl, rfl, hjl, hsq, hja, hjc⟩
    dsimp only at hjl hsq hja hjc ⊢
    match j with
    | 0 =>
      (repeat first | (apply wr_move; exact rfl; with_reducible (conv => enter [6, 3]; whnf)) | apply wr_end | apply wc_seq | apply wc_region | (apply wr_cmp; (iterate 3 exact rfl); exact cmpF (by dsimp only [cmpN]; first | done | omega)) | (apply wc_false; exact rfl) | (apply wc_exit; try simp only [thenE, inBlockE, bodyQ, ↓reduceIte, Nat.reduceEqDiff]))
      refine wr_loadAll (cs := [.int .i64 kK.1, S kK.2]) rfl rfl rfl hck5 rfl ?_
      refine wr_call (vs := [.pointer (some ⟨ab, 0, none⟩), encK kK, .slice none 0 0]) rfl (ready_ca h5 kK [] _ (slR_nil _ _) (by decide) (fun q hq => by cases hq) (fun q hq => by cases hq)) rfl ?_
      rintro r7 w7 ⟨L7, h7, hp7, ho7, hk7, hs7⟩
      have houts7 : outsP (getL (PL L5) kK) kK [] = [] := by
        rw [hp5]
        unfold afterP
        cases hg : getL (PL L) kK with
        | none => dsimp only; rw [hg]; rfl
        | some p =>
          dsimp only
          rw [getL_put, if_pos rfl]
          show readyO kK (readyN p 0) 0 = []
          unfold readyO readyN
          dsimp only
          rw [outB_told, if_neg (by omega)]; rfl
      rw [houts7] at ho7
      obtain ⟨ra7, rc7, rfl, _⟩ := own_row ho7
      rw [show ([] : List SD).length = 0 from rfl]
      (repeat first | (apply wr_assign; exact rfl; with_reducible (conv => enter [6, 3]; whnf)) | apply wr_end | (apply wr_len_slice; iterate 2 exact rfl) | (apply wr_cmp; (iterate 3 exact rfl); exact cmpT (by dsimp only [cmpP]; first | done | omega)) | (apply wr_pick (t := true); (iterate 2 exact rfl); with_reducible (conv => enter [6, 3]; whnf)) | (apply wc_ret; try simp only [thenE, inBlockE, bodyQ]))
      exact leave1 (v := .bool true) rfl rfl ⟨rfl, hk0.trans (hA5.keeps hK5 hk7)⟩
    | m + 1 =>
      obtain ⟨x, hx⟩ : ∃ x, B[m]? = some x := ⟨B[m]'(by omega), by simp [show m < B.length by omega]⟩
      have hmetx := hR4.i1 x (List.mem_of_getElem? hx)
      have hxb := hmb4 _ hmetx
      obtain ⟨rb, rcur, rfl, hrb, hrcur, hrrd⟩ := hrr (by omega)
      have hrx : ∀ (o : Nat) (v : Value), (GS (kK, x.1, false, x.2.1))[o]? = some v → rcur[0 + m * 5 + o]? = some v := fun o v h => by
        have ho : o < 5 := by have := (List.getElem?_eq_some_iff.1 h).1; rwa [GS_len] at this
        rw [Nat.zero_add, hrrd _ (by have := (List.getElem?_eq_some_iff.1 hx).1; omega), flat_get GS_len _ m (kK, x.1, false, x.2.1) o (by rw [List.getElem?_map, hx]; rfl) ho]
        exact h
      (repeat first | (apply wr_move; exact rfl; with_reducible (conv => enter [6, 3]; whnf)) | apply wr_end | apply wc_seq | apply wc_region | apply wc_skip | apply wc_block | (apply wr_cmp; (iterate 3 exact rfl); exact cmpT (by dsimp only [cmpP]; first | done | omega)) | (apply wc_true; exact rfl))
      refine wc_loopL (α := Nat) (fun s => [(3, .bool true), (4, .pointer (some ⟨ab, 0, none⟩)), (5, .pointer (some ⟨bw2, 0, none⟩)), (6, .slice (some ⟨bm, 0, none⟩) 31 mcap), (11, .slice (some ⟨rb, 0, none⟩) B.length rc), (12, .int .i64 (s : Int)), (13, .int .i64 (((m + 1 : Nat) : Int) - 1))])
        (fun s ds w' => ds = [] ∧ w' = w6 ∧ x.1 ≤ s ∧ s ≤ sq) (fun s => s) sq ⟨rfl, rfl, hjc m x hx (by omega), Nat.le_refl _⟩ ⟨rfl, rfl, rfl, rfl, rfl, rfl, rfl, trivial⟩ ?_
      rintro s ds f2 w7 ⟨rfl, rfl, hxs, hss⟩
      (repeat first | (apply wr_move; exact rfl; with_reducible (conv => enter [6, 3]; whnf)) | apply wc_seq | apply wc_region)
      refine wr_indexAddr (i := s) rfl rfl rfl (by omega) ?_
      refine wr_load (v := .bool (met s)) rfl rfl rfl hcm5 (hmrd s (by omega)) ?_
      by_cases hms : met s = true
      rotate_left
      · rw [show met s = false by simpa using hms]
        have hne : s ≠ x.1 := fun e => hms (by rw [e]; exact hmetx)
        (repeat first | (apply wr_move; exact rfl; with_reducible (conv => enter [6, 3]; whnf)) | (apply wr_assign; exact rfl; with_reducible (conv => enter [6, 3]; whnf)) | apply wr_end | apply wc_region | apply wc_skip | apply wc_block | (apply wr_not; iterate 2 exact rfl) | (apply wr_sub; (iterate 3 exact rfl); exact w_fit (by dsimp only [kIn]; first | done | omega)) | (apply wc_true; exact rfl) | (apply wr_nil; try simp only [thenE, inBlockE, bodyQ]))
        refine ⟨s - 1, by omega, ⟨by trivial, by trivial, by omega, by omega⟩, rfl, rfl, rfl, rfl, rfl, ?_, rfl, trivial⟩
        show Value.int .i64 ((s : Int) - 1) = .int .i64 ((s - 1 : Nat) : Int)
        congr 1; omega
      · have hsx : s = x.1 := by
          rcases Nat.eq_or_lt_of_le hxs with e | hlt
          · exact e.symm
          · exfalso
            obtain ⟨y, hy, hys⟩ := hasB_iff.1 (hR4.i2 s hms x (List.mem_of_getElem? hx) hlt)
            obtain ⟨p, hp⟩ := List.getElem?_of_mem hy
            obtain ⟨g1, rfl⟩ := List.getElem?_eq_some_iff.1 hp
            obtain ⟨g2, hgx⟩ := List.getElem?_eq_some_iff.1 hx
            rcases Nat.lt_or_ge m p with h9 | h9
            · have := hja p _ hp (by omega)
              omega
            · rcases Nat.eq_or_lt_of_le h9 with e | h10
              · subst e; rw [hgx] at hys; omega
              · have := List.pairwise_iff_getElem.1 hR4.srt p m g1 g2 h10
                rw [hgx] at this
                omega
        rw [hms]
        subst hsx
        (repeat first | (apply wr_move; exact rfl; with_reducible (conv => enter [6, 3]; whnf)) | apply wr_end | apply wc_seq | apply wc_region | (apply wr_not; iterate 2 exact rfl) | (apply wc_false; exact rfl) | (apply wc_exit; try simp only [thenE, inBlockE, bodyQ, ↓reduceIte, Nat.reduceEqDiff]))
        refine wr_indexAddr (i := m) rfl rfl (by show Value.int .i64 (((m + 1 : Nat) : Int) - 1) = .int .i64 (m : Int); congr 1; omega) (by omega) ?_
        (repeat first | (apply wr_fieldAddr; iterate 2 exact rfl))
        refine wr_load (v := .int .u64 ((x.1 : Nat) : Int)) rfl rfl rfl hrcur (hrx 2 _ rfl) ?_
        (repeat first | (apply wr_move; exact rfl; with_reducible (conv => enter [6, 3]; whnf)) | (apply wr_cmp; (iterate 3 exact rfl); exact cmpF (by dsimp only [cmpN]; first | done | omega)) | (apply wr_conv; (iterate 2 exact rfl); exact w_fit (by dsimp only [kIn]; first | done | omega)))
        refine wr_indexAddr (i := m) rfl rfl (by show Value.int .i64 (((m + 1 : Nat) : Int) - 1) = .int .i64 (m : Int); congr 1; omega) (by omega) ?_
        (repeat first | (apply wr_fieldAddr; iterate 2 exact rfl))
        refine wr_load (v := .bool false) rfl rfl rfl hrcur (hrx 3 _ rfl) ?_
        (repeat first | (apply wr_move; exact rfl; with_reducible (conv => enter [6, 3]; whnf)) | (apply wr_assign; exact rfl; with_reducible (conv => enter [6, 3]; whnf)) | apply wr_end | apply wc_region | apply wc_skip | (apply wr_pick (t := false); (iterate 2 exact rfl); with_reducible (conv => enter [6, 3]; whnf)) | (apply wr_sub; (iterate 3 exact rfl); exact w_fit (by dsimp only [kIn]; first | done | omega)) | (apply wc_false; exact rfl) | (apply wr_nil; try simp only [thenE, inBlockE, bodyQ]))
        refine ⟨(m, x.1 - 1), by dsimp only; omega, ⟨by trivial, by trivial, by dsimp only; omega, by dsimp only; omega, fun r y hy hr => ?_, fun r y hy hr => ?_⟩, rfl, rfl, rfl, rfl, rfl, ?_, ?_, trivial⟩
        · dsimp only at hr ⊢
          rcases Nat.eq_or_lt_of_le hr with e | h9
          · subst e; rw [hx] at hy; cases hy; omega
          · have := hja r y hy h9
            omega
        · dsimp only at hr ⊢
          obtain ⟨g1, rfl⟩ := List.getElem?_eq_some_iff.1 hy
          obtain ⟨g2, hgx⟩ := List.getElem?_eq_some_iff.1 hx
          have := List.pairwise_iff_getElem.1 hR4.srt r m g1 g2 hr
          rw [hgx] at this
          omega
        · show Value.int .i64 ((x.1 : Int) - 1) = .int .i64 ((x.1 - 1 : Nat) : Int)
          congr 1; omega
        · show Value.int .i64 ((((m + 1 : Nat) : Int) - 1) - 1) = .int .i64 ((m : Int) - 1)
          congr 1; omega
end Go.Proofs.YthdjhjeodjgbiaaDoor
