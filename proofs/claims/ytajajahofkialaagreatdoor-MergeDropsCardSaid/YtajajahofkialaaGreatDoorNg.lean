/- slices.DeleteFunc of an own row of texts. -/
import Derived.Test.YtajajahofkialaaGreatDoorNf
namespace Go.Proofs.YtajajahofkialaaGreatDoor
open Go Go.V Go.RowKit
set_option linter.unusedVariables false
set_option linter.unusedSimpArgs false

def keepF (p : List UInt8 → Bool) (l : TX) : TX := l.filter fun x => !p x
theorem keepF_snoc (p : List UInt8 → Bool) (l : TX) {j : Nat} {x : List UInt8} (h : l[j]? = some x) : keepF p (l.take (j + 1)) = keepF p (l.take j) ++ if p x = true then [] else [x] := by
  unfold keepF
  rw [List.take_add_one, h, List.filter_append]
  cases hp : p x <;> simp [hp]
theorem keepF_le (p : List UInt8 → Bool) (l : TX) (j : Nat) : (keepF p (l.take j)).length ≤ j := by
  have h1 := List.length_filter_le (fun x => !p x) (l.take j)
  unfold keepF
  rw [List.length_take] at h1
  omega
set_option maxRecDepth 100000 in
set_option maxHeartbeats 2000000 in
theorem deleteFunc_ca (p : List UInt8 → Bool) (dv : Value) {base n cap g : Nat} {l : TX} (w : World) (h : w.ownsRow base 9 1 (.slice (some ⟨g, 0, none⟩) n cap) n (SL l)) (hn : n ≤ 8796093022000)
    (hf : ∀ x ∈ l, ∀ w', Keeps (· = g) w w' → CallV Tryz.prog dv #[S x] w' fun v w'' => v = .bool (p x) ∧ Keeps NoB w' w'') :
    Ca Tryz.prog 57 #[.slice (some ⟨g, 0, none⟩) n cap, dv] w fun r w' => r = .slice (some ⟨g, 0, none⟩) (keepF p l).length cap ∧ w'.ownsRow base 9 1 r (keepF p l).length (SL (keepF p l)) ∧ Keeps (· = g) w w' := by
  have hll : l.length = n := by have := h.1; rw [SL_len] at this; omega
  subst hll
  have hsl : SlR w 1 (.slice (some ⟨g, 0, none⟩) l.length cap) l.length (SL l) := SlR.of_own h
  refine ca_of_body (args := [.slice (some ⟨g, 0, none⟩) l.length cap, dv]) Tryz.func57 rfl (by kernel_rfl) ?_
  (repeat first | (apply wr_move; exact rfl; with_reducible (conv => enter [6, 3]; whnf)) | (apply wr_assign; exact rfl; with_reducible (conv => enter [6, 3]; whnf)) | apply wr_end | apply wc_seq | apply wc_region)
  refine wr_call (vs := [.slice (some ⟨g, 0, none⟩) l.length cap, dv]) rfl
    (indexFuncS_ca l dv _ (fun i w' => keepF p (l.take i) = l.take i ∧ Keeps NoB w w') (fun i w' => keepF p (l.take i) = l.take i ∧ (∃ x, l[i]? = some x ∧ p x = true) ∧ Keeps NoB w w') w (by omega) ⟨rfl, Keeps.refl _ _⟩ (fun i w' hI => hsl.keep hI.2 (fun _ _ h => h)) ?_) rfl ?_
  · rintro i x w' hx ⟨hI, hk⟩
    refine (hf x (List.mem_of_getElem? hx) w' hk.upD).mono ?_
    rintro v w'' ⟨rfl, hk'⟩
    refine ⟨p x, rfl, ?_⟩
    cases hp : p x with
    | true => exact .inl ⟨rfl, hI, ⟨x, hx, hp⟩, hk.trans hk'⟩
    | false =>
      refine .inr ⟨rfl, ?_, hk.trans hk'⟩
      rw [keepF_snoc p l hx, hp, if_neg (by decide), hI, List.take_add_one, hx]; rfl
  rintro v w2 (⟨i, rfl, hi, hI, ⟨x0, hx0, hp0⟩, hk2⟩ | ⟨rfl, hI, hk2⟩)
  rotate_left
  · rw [List.take_length] at hI
    rw [hI]
    (repeat first | (apply wr_move; exact rfl; with_reducible (conv => enter [6, 3]; whnf)) | (apply wr_assign; exact rfl; with_reducible (conv => enter [6, 3]; whnf)) | apply wr_end | apply wc_seq | apply wc_region | (apply wr_cmp; (iterate 3 exact rfl); exact cmpT (by dsimp only [cmpP]; first | done | omega)) | (apply wc_true; exact rfl) | (apply wc_ret; try simp only [thenE, inBlockE, bodyQ]))
    exact leave1 (v := .slice (some ⟨g, 0, none⟩) l.length cap) rfl rfl ⟨rfl, own_keep h hk2 (fun _ _ h => h), hk2.upD⟩
  obtain ⟨cur, hb, hcap, hcs, hat⟩ : ∃ cur, w.heap[g]? = some (.cells cur 9 (0, 0)) ∧ l.length ≤ cap ∧ cap ≤ cur.size ∧ ∀ q x, l[q]? = some x → cur[q]? = some (S x) := by
    rcases h with ⟨hxl, ⟨h0, _⟩ | ⟨g', cap', cur, he, hg, hb, hn', hc, hcs, htk⟩⟩
    · cases h0
    cases he
    refine ⟨cur, hb, hn', by omega, fun q x hq => ?_⟩
    have h1 := SL_get hq
    have hql := (List.getElem?_eq_some_iff.1 hq).1
    rw [← htk, List.getElem?_take_of_lt (by omega)] at h1
    simpa using h1
  have hK0 : keepF p (l.take (i + 1)) = l.take i := by rw [keepF_snoc p l hx0, if_pos hp0, List.append_nil, hI]
  have hKl : (keepF p (l.take (i + 1))).length = i := by rw [hK0, List.length_take]; omega
  (repeat first | (apply wr_move; exact rfl; with_reducible (conv => enter [6, 3]; whnf)) | (apply wr_assign; exact rfl; with_reducible (conv => enter [6, 3]; whnf)) | apply wr_end | apply wc_seq | apply wc_region | apply wc_skip | apply wc_block | (apply wr_cmp; (iterate 3 exact rfl); exact cmpF (by dsimp only [cmpN]; first | done | omega)) | (apply wr_add; (iterate 3 exact rfl); exact w_fit (by dsimp only [kIn]; first | done | omega)) | (apply wc_false; exact rfl))
  refine wc_loopL (α := Nat) (fun j => [(0, .slice (some ⟨g, 0, none⟩) l.length cap), (1, dv), (5, .int .i64 ((keepF p (l.take j)).length : Int)), (6, .int .i64 (j : Int))])
    (fun j ds w' => ds = [] ∧ j ≤ l.length ∧ (keepF p (l.take j)).length < j ∧ (∃ cur', w'.heap[g]? = some (.cells cur' 9 (0, 0)) ∧ cur'.size = cur.size ∧ (∀ q x, (keepF p (l.take j))[q]? = some x → cur'[q]? = some (S x)) ∧ (∀ q x, j ≤ q → l[q]? = some x → cur'[q]? = some (S x))) ∧ Keeps (· = g) w w') (fun j => l.length - j) (i + 1)
    ⟨rfl, hi, by omega, ⟨cur, hk2.heap hb (fun h => h), rfl, fun q x hq => by
      rw [hK0] at hq
      have hql := (List.getElem?_eq_some_iff.1 hq).1
      rw [List.length_take] at hql
      rw [List.getElem?_take_of_lt (by omega)] at hq
      exact hat q x hq, fun q x _ hq => hat q x hq⟩, hk2.upD⟩ ⟨rfl, rfl, by rw [hKl], by simp, trivial⟩ ?_
  rintro j ds f0 w3 ⟨rfl, hj, hKj, ⟨cur', hb3, hs3, hka, hkb⟩, hk3⟩
  by_cases hjl : j < l.length
  · obtain ⟨x, hx⟩ : ∃ x, l[j]? = some x := ⟨l[j], by simp [hjl]⟩
    have hsn := keepF_snoc p l hx
    (repeat first | (apply wr_move; exact rfl; with_reducible (conv => enter [6, 3]; whnf)) | apply wr_end | apply wc_seq | apply wc_region | apply wc_skip | apply wc_block | (apply wr_len_slice; iterate 2 exact rfl) | (apply wr_cmp; (iterate 3 exact rfl); exact cmpT (by dsimp only [cmpP]; first | done | omega)) | (apply wc_true; exact rfl))
    refine wr_indexAddr (i := j) rfl rfl rfl hjl ?_
    refine wr_load (v := S x) rfl rfl rfl hb3 (by rw [Nat.zero_add, Nat.mul_one]; exact hkb j x (Nat.le_refl _) hx) ?_
    (repeat first | (apply wr_move; exact rfl; with_reducible (conv => enter [6, 3]; whnf)) | (apply wr_assign; exact rfl; with_reducible (conv => enter [6, 3]; whnf)) | apply wr_end | apply wc_seq | apply wc_region)
    refine wr_callv (vs := [S x]) rfl (hf x (List.mem_of_getElem? hx) w3 hk3) rfl rfl ?_
    rintro v w4 ⟨rfl, hk4⟩
    have hb4 := hk4.heap hb3 (fun h => h)
    cases hp : p x with
    | true =>
      rw [hp, if_pos rfl, List.append_nil] at hsn
      (repeat first | (apply wr_move; exact rfl; with_reducible (conv => enter [6, 3]; whnf)) | (apply wr_assign; exact rfl; with_reducible (conv => enter [6, 3]; whnf)) | apply wr_end | apply wc_region | apply wc_skip | (apply wr_not; iterate 2 exact rfl) | (apply wr_add; (iterate 3 exact rfl); exact w_fit (by dsimp only [kIn]; first | done | omega)) | (apply wc_false; exact rfl))
      exact ⟨j + 1, by omega, ⟨by trivial, hjl, by rw [hsn]; omega, ⟨cur', hb4, hs3, (fun q y hq => hka q y (by rw [← hsn]; exact hq)), fun q y hq hy => hkb q y (by omega) hy⟩, hk3.trans hk4.upD⟩, rfl, rfl, by rw [hsn], by simp, trivial⟩
    | false =>
      rw [hp, if_neg (by decide)] at hsn
      obtain ⟨u, hu⟩ : ∃ u, cur'[(keepF p (l.take j)).length]? = some u := ⟨cur'[(keepF p (l.take j)).length]'(by omega), by simp [show (keepF p (l.take j)).length < cur'.size by omega]⟩
      (repeat first | (apply wr_move; exact rfl; with_reducible (conv => enter [6, 3]; whnf)) | apply wr_end | apply wc_seq | apply wc_region | (apply wr_not; iterate 2 exact rfl) | (apply wc_true; exact rfl))
      refine wr_indexAddr (i := (keepF p (l.take j)).length) rfl rfl rfl (by omega) ?_
      refine wr_store (v := S x) rfl rfl rfl rfl hb4 (by rw [Nat.zero_add, Nat.mul_one]; exact hu) ?_
      obtain ⟨w5, hw5⟩ : ∃ w5, w5 = w4.putObj g (.cells (cur'.setIfInBounds (0 + (keepF p (l.take j)).length * 1) (S x)) 9 (0, 0)) := ⟨_, rfl⟩
      have hk5 : Keeps (· = g) w4 w5 := by rw [hw5]; exact (Keeps.refl _ _).put _ (fun _ => rfl)
      have hb5 : w5.heap[g]? = some (.cells (cur'.setIfInBounds (keepF p (l.take j)).length (S x)) 9 (0, 0)) := by rw [hw5, World.putObj_heap_same (lt_of_heap hb4)]; simp
      rw [← hw5]
      clear hw5
      (repeat first | (apply wr_move; exact rfl; with_reducible (conv => enter [6, 3]; whnf)) | (apply wr_assign; exact rfl; with_reducible (conv => enter [6, 3]; whnf)) | apply wr_end | apply wc_region | (apply wr_add; (iterate 3 exact rfl); exact w_fit (by dsimp only [kIn]; first | done | omega)) | (apply wr_nil; try simp only [thenE, inBlockE, bodyQ]))
      exact ⟨j + 1, by omega, ⟨by trivial, hjl, (by rw [hsn, List.length_append]; show _ + 1 < _; omega), ⟨_, hb5, by simpa using hs3, (fun q y hq => by
        rw [hsn] at hq
        by_cases hql : q < (keepF p (l.take j)).length
        · rw [List.getElem?_append_left hql] at hq
          rw [Array.getElem?_setIfInBounds_ne (by omega)]
          exact hka q y hq
        · have hqe : q = (keepF p (l.take j)).length := by
            have := (List.getElem?_eq_some_iff.1 hq).1
            simp at this; omega
          subst hqe
          simp at hq
          subst hq
          rw [Array.getElem?_setIfInBounds_self_of_lt (by omega)]), fun q y hq hy => by
        rw [Array.getElem?_setIfInBounds_ne (by omega)]
        exact hkb q y (by omega) hy⟩, (hk3.trans hk4.upD).trans hk5⟩, rfl, rfl, by rw [hsn]; simp, by simp, trivial⟩
  have hje : j = l.length := by omega
  subst hje
  rw [List.take_length] at *
  (repeat first | (apply wr_move; exact rfl; with_reducible (conv => enter [6, 3]; whnf)) | apply wr_end | apply wc_seq | apply wc_region | (apply wr_len_slice; iterate 2 exact rfl) | (apply wr_cmp; (iterate 3 exact rfl); exact cmpF (by dsimp only [cmpN]; first | done | omega)) | (apply wc_false; exact rfl) | (apply wc_exit; try simp only [thenE, inBlockE, bodyQ, ↓reduceIte, Nat.reduceEqDiff]))
  have hKk : (keepF p l).length < l.length := hKj
  obtain ⟨m, hm⟩ : ∃ m, m = (keepF p l).length := ⟨_, rfl⟩
  rw [← hm] at hKk
  rw [← hm]
  have hadd : Option.map (fun x : Addr => x.add (m * 1)) (some (⟨g, 0, none⟩ : Addr)) = some ⟨g, m, none⟩ := by simp [addr_add]
  refine wr_sl_slice (i := m) (j := l.length) rfl rfl (.inl ⟨rfl, rfl⟩) (.inr ⟨_, rfl, by omega⟩) ?_
  rw [if_neg (by omega), hadd]
  refine wr_clearS rfl rfl hb3 rfl rfl (by omega) (by omega) ?_
  intro cur2 hs2 hpre
  obtain ⟨w5, hw5⟩ : ∃ w5, w5 = w3.putObj g (.cells cur2 9 (0, 0)) := ⟨_, rfl⟩
  have hk5 : Keeps (· = g) w3 w5 := by rw [hw5]; exact (Keeps.refl _ _).put _ (fun _ => rfl)
  have hb5 : w5.heap[g]? = some (.cells cur2 9 (0, 0)) := by rw [hw5]; exact World.putObj_heap_same (lt_of_heap hb3)
  rw [← hw5]
  clear hw5
  (repeat first | (apply wr_move; exact rfl; with_reducible (conv => enter [6, 3]; whnf)) | apply wr_end | apply wc_seq | apply wc_region)
  refine wr_sl_slice (i := 0) (j := m) rfl rfl (.inr ⟨_, rfl, by omega⟩) (.inl ⟨rfl, rfl⟩) ?_
  have hadd0 : Option.map (fun x : Addr => x.add (0 * 1)) (some (⟨g, 0, none⟩ : Addr)) = some ⟨g, 0, none⟩ := by simp [addr_add]
  rw [if_neg (by omega), hadd0, Nat.sub_zero, Nat.sub_zero]
  have hown : w5.ownsRow base 9 1 (.slice (some ⟨g, 0, none⟩) m cap) m (SL (keepF p l)) := by
    rcases h with ⟨hxl, ⟨h0, _⟩ | ⟨g', cap', cu, he, hg, hbb, hn', hc, hcs', htk⟩⟩
    · cases h0
    cases he
    rw [hb] at hbb
    cases hbb
    refine ⟨by rw [SL_len, hm, Nat.mul_one], .inr ⟨g, cap, cur2, rfl, hg, hb5, by omega, hc, by omega, ?_⟩⟩
    apply List.ext_getElem?
    intro q
    by_cases hq : q < m
    · obtain ⟨y, hy⟩ : ∃ y, (keepF p l)[q]? = some y := ⟨(keepF p l)[q]'(by omega), by simp [show q < (keepF p l).length by omega]⟩
      have h1 := hka q y hy
      rw [← hpre q hq] at h1
      rw [List.getElem?_take_of_lt (by omega), SL_get hy]
      simpa using h1
    · rw [List.getElem?_eq_none (by rw [List.length_take]; omega), List.getElem?_eq_none (by rw [SL_len]; omega)]
  (repeat first | (apply wr_assign; exact rfl; with_reducible (conv => enter [6, 3]; whnf)) | apply wr_end | (apply wc_ret; try simp only [thenE, inBlockE, bodyQ]))
  exact leave1 (v := .slice (some ⟨g, 0, none⟩) m cap) rfl rfl ⟨rfl, hown, hk3.trans hk5⟩
end Go.Proofs.YtajajahofkialaaGreatDoor
