/- slices.Equal of texts; Same, Add, Drop. -/
import Derived.Test.YtahlhldkcekbfaaGreatDoorNl
namespace Go.Proofs.YtahlhldkcekbfaaGreatDoor
open Go Go.V Go.RowKit
set_option linter.unusedVariables false
set_option linter.unusedSimpArgs false

set_option maxRecDepth 100000 in
set_option maxHeartbeats 1000000 in
theorem equalS_ca (l m : TX) (x y : Value) (w : World) (hx : SlR w 1 x l.length (SL l)) (hy : SlR w 1 y m.length (SL m)) (hlen : l.length ≤ 8796093022000) (hlen' : m.length ≤ 8796093022000) :
    Ca Tryz.prog 65 #[x, y] w fun v w' => v = .bool (decide (l = m)) ∧ Keeps NoB w w' := by
  obtain ⟨a, c, rfl, hc, hat⟩ := slr_strs hx
  obtain ⟨a', c', rfl, hc', hat'⟩ := slr_strs hy
  refine ca_of_body (args := [.slice a l.length c, .slice a' m.length c']) Tryz.func65 rfl (by kernel_rfl) ?_
  by_cases hlm : l.length = m.length
  · (repeat first | (apply wr_move; exact rfl; with_reducible (conv => enter [6, 3]; whnf)) | (apply wr_assign; exact rfl; with_reducible (conv => enter [6, 3]; whnf)) | apply wr_end | apply wc_seq | apply wc_region | apply wc_skip | apply wc_block | (apply wr_len_slice; iterate 2 exact rfl) | (apply wr_cmp; (iterate 3 exact rfl); exact cmpF (by dsimp only [cmpN]; first | done | omega)) | (apply wc_false; exact rfl))
    refine wc_loopL (α := Nat) (fun i => [(0, .slice a l.length c), (1, .slice a' m.length c'), (12, .int .i64 (l.length : Int)), (13, .int .i64 (i : Int))])
      (fun i ds w' => ds = [] ∧ i ≤ l.length ∧ l.take i = m.take i ∧ Keeps NoB w w') (fun i => l.length - i) 0 ⟨rfl, Nat.zero_le _, rfl, Keeps.refl _ _⟩ ⟨rfl, rfl, rfl, rfl, trivial⟩ ?_
    rintro i ds f0 w2 ⟨rfl, hi, hpre, hk2⟩
    by_cases hlt : i < l.length
    · obtain ⟨b, o, rfl, cur, e, fr, hb, hr⟩ := hat (by omega)
      obtain ⟨b', o', rfl, cur', e', fr', hb', hr'⟩ := hat' (by omega)
      have hb2 := hk2.heap hb (fun h => h)
      have hb2' := hk2.heap hb' (fun h => h)
      obtain ⟨p, hp⟩ : ∃ p, l[i]? = some p := ⟨l[i], by simp [hlt]⟩
      obtain ⟨q, hq⟩ : ∃ q, m[i]? = some q := ⟨m[i]'(by omega), by simp [show i < m.length by omega]⟩
      (repeat first | (apply wr_move; exact rfl; with_reducible (conv => enter [6, 3]; whnf)) | (apply wr_assign; exact rfl; with_reducible (conv => enter [6, 3]; whnf)) | apply wr_end | apply wc_seq | apply wc_region | apply wc_skip | apply wc_block | (apply wr_cmp; (iterate 3 exact rfl); exact cmpT (by dsimp only [cmpP]; first | done | omega)) | (apply wc_true; exact rfl))
      refine wc_drawS (l := _) (S := fun w' => w' = w2.drew) (by kernel_rfl) (by kernel_rfl) rfl ?_
      apply ch_step
      focus
        intro w' hS
        subst hS
        apply wr_move; exact rfl; with_reducible (conv => enter [6, 3]; whnf)
        apply wr_nil
        exact ⟨rfl, rfl⟩
      apply ch_step
      focus
        intro w' hS
        subst hS
        apply wr_move; exact rfl; with_reducible (conv => enter [6, 3]; whnf)
        apply wr_nil
        exact ⟨rfl, rfl⟩
      apply ch_step
      focus
        intro w' hS
        subst hS
        refine wr_indexAddr (i := i) rfl rfl rfl hlt ?_
        apply wr_nil
        exact ⟨rfl, rfl⟩
      apply ch_step
      focus
        intro w' hS
        subst hS
        refine wr_load (v := S p) rfl rfl rfl hb2 (hr i p hp) ?_
        apply wr_nil
        exact ⟨rfl, rfl⟩
      apply ch_step
      focus
        intro w' hS
        subst hS
        apply wr_move; exact rfl; with_reducible (conv => enter [6, 3]; whnf)
        apply wr_nil
        exact ⟨rfl, rfl⟩
      apply ch_step
      focus
        intro w' hS
        subst hS
        apply wr_move; exact rfl; with_reducible (conv => enter [6, 3]; whnf)
        apply wr_nil
        exact ⟨rfl, rfl⟩
      apply ch_step
      focus
        intro w' hS
        subst hS
        refine wr_indexAddr (i := i) rfl rfl rfl (by omega) ?_
        apply wr_nil
        exact ⟨rfl, rfl⟩
      apply ch_step
      focus
        intro w' hS
        subst hS
        refine wr_load (v := S q) rfl rfl rfl hb2' (hr' i q hq) ?_
        apply wr_nil
        exact ⟨rfl, rfl⟩
      apply ch_step
      focus
        intro w' hS
        subst hS
        refine wr_strne (a := p) (b := q) rfl rfl rfl ?_
        apply wr_nil
        exact ⟨rfl, rfl⟩
      refine ch_nil ?_
      intro w' hS
      subst hS
      by_cases he : p = q
      · rw [show decide (p ≠ q) = false by simp [he]]
        (repeat first | (apply wr_move; exact rfl; with_reducible (conv => enter [6, 3]; whnf)) | apply wr_end | apply wc_region | apply wc_skip | (apply wr_add; (iterate 3 exact rfl); exact w_fit (by dsimp only [kIn]; first | done | omega)) | (apply wc_false; exact rfl))
        refine ⟨i + 1, by omega, ⟨by trivial, hlt, ?_, hk2.drew⟩, rfl, rfl, rfl, by simp, trivial⟩
        rw [List.take_add_one, List.take_add_one, hp, hq, hpre, he]
      · rw [show decide (p ≠ q) = true by simp [he]]
        (repeat first | (apply wr_assign; exact rfl; with_reducible (conv => enter [6, 3]; whnf)) | apply wr_end | apply wc_seq | apply wc_region | (apply wc_true; exact rfl) | (apply wc_ret; try simp only [thenE, inBlockE, bodyQ]))
        refine leave1 (v := .bool false) rfl rfl ⟨?_, hk2.drew⟩
        rw [decide_eq_false]
        intro h
        rw [h, hq] at hp
        exact he (Option.some.inj hp).symm
    · have he : i = l.length := by omega
      subst he
      rw [List.take_length, List.take_of_length_le (by omega)] at hpre
      (repeat first | (apply wr_assign; exact rfl; with_reducible (conv => enter [6, 3]; whnf)) | apply wr_end | apply wc_seq | apply wc_region | (apply wr_cmp; (iterate 3 exact rfl); exact cmpF (by dsimp only [cmpN]; first | done | omega)) | (apply wc_false; exact rfl) | (apply wc_exit; try simp only [thenE, inBlockE, bodyQ, ↓reduceIte, Nat.reduceEqDiff]) | (apply wc_ret; try simp only [thenE, inBlockE, bodyQ]))
      exact leave1 (v := .bool true) rfl rfl ⟨by rw [decide_eq_true hpre], hk2⟩
  · (repeat first | (apply wr_move; exact rfl; with_reducible (conv => enter [6, 3]; whnf)) | (apply wr_assign; exact rfl; with_reducible (conv => enter [6, 3]; whnf)) | apply wr_end | apply wc_seq | apply wc_region | (apply wr_len_slice; iterate 2 exact rfl) | (apply wr_cmp; (iterate 3 exact rfl); exact cmpT (by dsimp only [cmpP]; first | done | omega)) | (apply wc_true; exact rfl) | (apply wc_ret; try simp only [thenE, inBlockE, bodyQ]))
    exact leave1 (v := .bool false) rfl rfl ⟨by rw [decide_eq_false (fun h => hlm (by rw [h]))], Keeps.refl _ _⟩
theorem slS_put {w w' : World} {b : Nat} {x : Bool} {nv v : Value} {T : TypeId} {fr : Nat × Nat} {l : TX} (hc : w.heap[b]? = some (.cells #[.bool x, nv] T fr)) (hnv : ∀ s, nv ≠ S s) {n : Nat} (hn : n = l.length) (h : SlR w 1 v n (SL l)) (hk : Keeps (· = b) w w') : SlR w' 1 v n (SL l) := by
  subst hn
  obtain ⟨hl, a, c, rfl, hcc, h⟩ := h
  refine ⟨hl, a, c, rfl, hcc, ?_⟩
  rcases h with h | ⟨b', o, cur, e, fr', rfl, hb, hr⟩
  · exact .inl h
  by_cases h0 : l.length = 0
  · exact .inl ⟨h0, fun e => by cases e⟩
  refine .inr ⟨b', o, cur, e, fr', rfl, hk.heap hb ?_, hr⟩
  intro e'
  subst e'
  rw [hc] at hb
  cases hb
  have h1 := hr 0 (by omega)
  have h2 : (SL l)[0]? = some (S (l[0]'(by omega))) := SL_get (by simp)
  rw [h2] at h1
  match o, h1 with
  | 0, h1 => simp at h1
  | 1, h1 => simp at h1; exact hnv _ h1
  | o + 2, h1 => simp at h1
def sameP (s t : PS) : Bool := s.1 == t.1 && decide (s.2 = t.2)
theorem sameP_iff (s t : PS) : sameP s t = true ↔ s = t := by
  obtain ⟨a, l⟩ := s
  obtain ⟨b, m⟩ := t
  simp [sameP, Prod.mk.injEq]
set_option maxRecDepth 100000 in
set_option maxHeartbeats 1000000 in
theorem same_ca (s t : PS) (sv tv : Value) (w : World) (hs : SetR w s sv) (ht : SetR w t tv) (hsn : s.2.length ≤ 8796093022000) (htn : t.2.length ≤ 8796093022000) :
    Ca Tryz.prog 31 #[sv, tv] w fun v w' => v = .bool (sameP s t) ∧ Keeps NoB w w' := by
  obtain ⟨av, rfl, has⟩ := hs
  obtain ⟨bv, rfl, hbs⟩ := ht
  obtain ⟨aA, al⟩ := s
  obtain ⟨bA, bl⟩ := t
  dsimp only at has hbs hsn htn ⊢
  obtain ⟨an, cn, rfl, _, _⟩ := slr_strs has
  obtain ⟨bn, dn, rfl, _, _⟩ := slr_strs hbs
  refine ca_of_body (args := [SetV aA (.slice an al.length cn), SetV bA (.slice bn bl.length dn)]) Tryz.func31 rfl (by kernel_rfl) ?_
  apply wc_seq
  apply wc_region
  refine wr_box (v := SetV aA (.slice an al.length cn)) rfl rfl ?_
  obtain ⟨w1, hw1⟩ : ∃ w1, w1 = w.alloc (.cells (SetV aA (.slice an al.length cn)).cells 26) := ⟨_, rfl⟩
  obtain ⟨b1, hb1⟩ : ∃ b1, b1 = w.heap.size := ⟨_, rfl⟩
  have hk1 : Keeps NoB w w1 := by rw [hw1]; exact (Keeps.refl NoB w).alloc _
  have hc1 : w1.heap[b1]? = some (.cells #[.bool aA, .slice an al.length cn] 26 (0, 0)) := by rw [hw1, hb1]; exact heap_alloc_same _ _
  rw [← hw1, ← hb1]
  clear hw1
  refine wr_box (v := SetV bA (.slice bn bl.length dn)) rfl rfl ?_
  obtain ⟨w2, hw2⟩ : ∃ w2, w2 = w1.alloc (.cells (SetV bA (.slice bn bl.length dn)).cells 26) := ⟨_, rfl⟩
  obtain ⟨b2, hb2⟩ : ∃ b2, b2 = w1.heap.size := ⟨_, rfl⟩
  have hk2 : Keeps NoB w1 w2 := by rw [hw2]; exact (Keeps.refl NoB w1).alloc _
  have hc2 : w2.heap[b2]? = some (.cells #[.bool bA, .slice bn bl.length dn] 26 (0, 0)) := by rw [hw2, hb2]; exact heap_alloc_same _ _
  rw [← hw2, ← hb2]
  clear hw2
  have hkw2 := hk1.trans hk2
  have hc12 := hk2.heap hc1 (fun h => h)
  (repeat first | (apply wr_assign; exact rfl; with_reducible (conv => enter [6, 3]; whnf)) | apply wr_end | apply wc_seq | apply wc_region | (apply wr_fieldAddr; iterate 2 exact rfl) | (apply wr_load; (iterate 3 exact rfl); (focus repeat first | with_reducible assumption | exact heap_alloc_same _ _ | exact World.putObj_heap_same (by first | omega | (simp only [World.size_alloc, World.putObj_size, ne_eq]; omega)) | ((first | refine hAl ?_ ?_ | refine hPu ?_ ?_); focus first | omega | (simp only [World.size_alloc, World.putObj_size, ne_eq]; omega))); exact rfl; conv => enter [6, 3]; whnf))
  refine wr_boolEq (c := aA == bA) rfl rfl rfl rfl ?_
  unfold sameP
  dsimp only
  cases hab : aA == bA with
  | true =>
    (repeat first | (apply wr_move; exact rfl; with_reducible (conv => enter [6, 3]; whnf)) | (apply wr_fieldAddr; iterate 2 exact rfl) | (apply wr_load; (iterate 3 exact rfl); (focus repeat first | with_reducible assumption | exact heap_alloc_same _ _ | exact World.putObj_heap_same (by first | omega | (simp only [World.size_alloc, World.putObj_size, ne_eq]; omega)) | ((first | refine hAl ?_ ?_ | refine hPu ?_ ?_); focus first | omega | (simp only [World.size_alloc, World.putObj_size, ne_eq]; omega))); exact rfl; conv => enter [6, 3]; whnf))
    refine wr_call (vs := [.slice an al.length cn, .slice bn bl.length dn]) rfl (equalS_ca al bl _ _ w2 (has.keep hkw2 (fun _ _ h => h)) (hbs.keep hkw2 (fun _ _ h => h)) hsn htn) rfl ?_
    rintro v w3 ⟨rfl, hk3⟩
    (repeat first | (apply wr_assign; exact rfl; with_reducible (conv => enter [6, 3]; whnf)) | apply wr_end | (apply wr_pick (t := true); (iterate 2 exact rfl); with_reducible (conv => enter [6, 3]; whnf)) | (apply wc_ret; try simp only [thenE, inBlockE, bodyQ]))
    exact leave1 (v := .bool (decide (al = bl))) rfl rfl ⟨by rw [Bool.true_and], hkw2.trans hk3⟩
  | false =>
    (repeat first | (apply wr_move; exact rfl; with_reducible (conv => enter [6, 3]; whnf)) | (apply wr_assign; exact rfl; with_reducible (conv => enter [6, 3]; whnf)) | apply wr_end | (apply wr_pick (t := false); (iterate 2 exact rfl); with_reducible (conv => enter [6, 3]; whnf)) | (apply wc_ret; try simp only [thenE, inBlockE, bodyQ]) | (apply wr_skip; exact rfl))
    exact leave1 (v := .bool false) rfl rfl ⟨by rw [Bool.false_and], hkw2⟩
set_option maxRecDepth 100000 in
set_option maxHeartbeats 1000000 in
theorem drop_ca (s : PS) (l : TX) (sv lv : Value) (w : World) (hs : SetR w s sv) (hl : SlR w 1 lv l.length (SL l)) (hsn : s.2.length ≤ 100000000000) (hln : l.length ≤ 100000000000) (hok : ∀ x ∈ l, x.length ≤ 9223372036854775807) :
    Ca Tryz.prog 32 #[sv, lv] w fun v w' => SetR w' (lessP s (ofP l)) v ∧ Keeps NoB w w' := by
  obtain ⟨av, rfl, has⟩ := hs
  obtain ⟨aA, al⟩ := s
  dsimp only at has hsn ⊢
  obtain ⟨an, cn, rfl, _, _⟩ := slr_strs has
  refine ca_of_body (args := [SetV aA (.slice an al.length cn), lv]) Tryz.func32 rfl (by kernel_rfl) ?_
  apply wc_seq
  apply wc_region
  refine wr_box (v := SetV aA (.slice an al.length cn)) rfl rfl ?_
  obtain ⟨w1, hw1⟩ : ∃ w1, w1 = w.alloc (.cells (SetV aA (.slice an al.length cn)).cells 26) := ⟨_, rfl⟩
  obtain ⟨b1, hb1⟩ : ∃ b1, b1 = w.heap.size := ⟨_, rfl⟩
  have hk1 : Keeps NoB w w1 := by rw [hw1]; exact (Keeps.refl NoB w).alloc _
  have hc1 : w1.heap[b1]? = some (.cells #[.bool aA, .slice an al.length cn] 26 (0, 0)) := by rw [hw1, hb1]; exact heap_alloc_same _ _
  rw [← hw1, ← hb1]
  clear hw1
  apply wr_alloc
  focus exact rfl
  obtain ⟨w2, hw2⟩ : ∃ w2, w2 = w1.alloc (.cells (SetV false (.slice none 0 0)).cells 26) := ⟨_, rfl⟩
  obtain ⟨b2, hb2⟩ : ∃ b2, b2 = w1.heap.size := ⟨_, rfl⟩
  have hk2 : Keeps NoB w1 w2 := by rw [hw2]; exact (Keeps.refl NoB w1).alloc _
  have hc2 : w2.heap[b2]? = some (.cells #[.bool false, .slice none 0 0] 26 (0, 0)) := by rw [hw2, hb2]; exact heap_alloc_same _ _
  rw [← hw2, ← hb2]
  clear hw2
  have hkw2 := hk1.trans hk2
  have hc12 := hk2.heap hc1 (fun h => h)
  have hl1 := lt_of_heap hc1
  have hl2 := lt_of_heap hc2
  have hk0 : ∀ {w'}, Keeps NoB w2.drew w' → Keeps NoB w2 w' := fun hk => (Keeps.refl NoB w2).drew.trans hk
  have hle : (ofP l).2.length ≤ 100000000000 := by
    have h1 := srtd_le (keepF (fun s => !decide (nameOk s)) l)
    have h2 := keepF_le (fun s => !decide (nameOk s)) l l.length
    rw [List.take_length] at h2
    show (srtd _).length ≤ _
    omega
  (repeat first | apply wr_end | apply wc_seq)
  refine wc_drawP (l := _) 3 _ (by kernel_rfl) (by kernel_rfl) rfl (by kernel_rfl) (by kernel_rfl) (by decide) ?_
  apply chP_pure
  focus
    intro xx w' hk hF
    refine wr_loadAll (cs := [.bool aA, .slice an al.length cn]) rfl rfl rfl ((hk0 hk).heap hc12 (fun h => h)) rfl ?_
    apply wr_nil
    exact ⟨rfl, Keeps.refl _ _⟩
  focus (intro xx yy h; rfl)
  focus kernel_rfl
  apply chP_pure
  focus
    intro xx w' hk hF
    apply wr_move; exact rfl; with_reducible (conv => enter [6, 3]; whnf)
    apply wr_nil
    exact ⟨rfl, Keeps.refl _ _⟩
  focus (intro xx yy h; rfl)
  focus kernel_rfl
  refine chP_fact (fun y => y) (fun y w' => SetR w' (ofP l) y) (fun y w' w'' h k => h.keep k) ?_ ?_
  · intro xx w' hk hF
    refine wr_call (vs := [lv]) rfl (of_ca l lv w' (hl.keep (hkw2.trans (hk0 hk)) (fun _ _ h => h)) (by omega) hok) rfl ?_
    rintro v w'' ⟨ho, hkc⟩
    apply wr_nil
    exact ⟨v, rfl, ho, hkc⟩
  refine chP_nil ?_
  intro xx w3 hk3' hF
  have hR3 : SetR w3 (ofP l) (xx 2) := hF 2 (by decide)
  have hk3 := hk0 hk3'
  have hc3 := hk3.heap hc2 (fun h => h)
  have has3 := has.keep (hkw2.trans hk3) (fun _ _ h => h)
  refine wr_call (vs := [SetV aA (.slice an al.length cn), xx 2]) rfl (less_ca (aA, al) (ofP l) _ _ w3 ⟨_, rfl, has3⟩ hR3 (by dsimp only; omega) (by omega)) rfl ?_; rintro v w5 ⟨hR5, hk5⟩
  obtain ⟨v5, rfl, hs5⟩ := hR5
  obtain ⟨a5, c5, rfl, _, _⟩ := slr_strs hs5
  obtain ⟨A5, hA5⟩ : ∃ A5, A5 = (lessP (aA, al) (ofP l)).1 := ⟨_, rfl⟩
  obtain ⟨n5, hn5⟩ : ∃ n5, n5 = (lessP (aA, al) (ofP l)).2.length := ⟨_, rfl⟩
  rw [← hA5, ← hn5]
  have hc5 := hk5.heap hc3 (fun h => h)
  refine wr_storeAll (cs := [.bool A5, .slice a5 n5 c5]) rfl rfl rfl (by intro u hu; simp at hu; rcases hu with rfl | rfl <;> rfl) hc5 rfl rfl ?_
  (repeat first | apply wr_end | (apply wc_ret; try simp only [thenE, inBlockE, bodyQ]))
  have hlt5 := lt_of_heap hc5
  have hkp : Keeps (· = b2) w5 (w5.putObj b2 (.cells [.bool A5, .slice a5 n5 c5].toArray 26 (0, 0))) := (Keeps.refl _ w5).put _ (fun _ => rfl)
  refine leaveN (vs := [SetV A5 (.slice a5 n5 c5)]) (resv_cells (cs := [.bool A5, .slice a5 n5 c5]) rfl rfl (World.putObj_heap_same hlt5) rfl resv_nil) ⟨⟨.slice a5 n5 c5, by rw [hA5, hn5]; rfl, ?_⟩, Keeps.trans' ((hkw2.trans hk3).trans hk5) hkp (fun i hi e => by have := hk1.size; omega)⟩
  rw [← hn5] at hs5 ⊢
  exact slS_put hc5 (by intro x h; cases h) hn5 hs5 hkp
set_option maxRecDepth 100000 in
set_option maxHeartbeats 1000000 in
theorem add_ca (s : PS) (l : TX) (sv lv : Value) (w : World) (hs : SetR w s sv) (hl : SlR w 1 lv l.length (SL l)) (hsn : s.2.length ≤ 100000000000) (hln : l.length ≤ 100000000000) (hok : ∀ x ∈ l, x.length ≤ 9223372036854775807) :
    Ca Tryz.prog 19 #[sv, lv] w fun v w' => SetR w' (unionP [s, ofP l]) v ∧ Keeps NoB w w' := by
  obtain ⟨av, rfl, has⟩ := hs
  obtain ⟨aA, al⟩ := s
  dsimp only at has hsn ⊢
  obtain ⟨an, cn, rfl, _, _⟩ := slr_strs has
  refine ca_of_body (args := [SetV aA (.slice an al.length cn), lv]) Tryz.func19 rfl (by kernel_rfl) ?_
  apply wc_seq
  apply wc_region
  refine wr_box (v := SetV aA (.slice an al.length cn)) rfl rfl ?_
  obtain ⟨w1, hw1⟩ : ∃ w1, w1 = w.alloc (.cells (SetV aA (.slice an al.length cn)).cells 26) := ⟨_, rfl⟩
  obtain ⟨b1, hb1⟩ : ∃ b1, b1 = w.heap.size := ⟨_, rfl⟩
  have hk1 : Keeps NoB w w1 := by rw [hw1]; exact (Keeps.refl NoB w).alloc _
  have hc1 : w1.heap[b1]? = some (.cells #[.bool aA, .slice an al.length cn] 26 (0, 0)) := by rw [hw1, hb1]; exact heap_alloc_same _ _
  rw [← hw1, ← hb1]
  clear hw1
  apply wr_alloc
  focus exact rfl
  obtain ⟨w2, hw2⟩ : ∃ w2, w2 = w1.alloc (.cells (SetV false (.slice none 0 0)).cells 26) := ⟨_, rfl⟩
  obtain ⟨b2, hb2⟩ : ∃ b2, b2 = w1.heap.size := ⟨_, rfl⟩
  have hk2 : Keeps NoB w1 w2 := by rw [hw2]; exact (Keeps.refl NoB w1).alloc _
  have hc2 : w2.heap[b2]? = some (.cells #[.bool false, .slice none 0 0] 26 (0, 0)) := by rw [hw2, hb2]; exact heap_alloc_same _ _
  rw [← hw2, ← hb2]
  clear hw2
  have hkw2 := hk1.trans hk2
  have hc12 := hk2.heap hc1 (fun h => h)
  have hl1 := lt_of_heap hc1
  have hl2 := lt_of_heap hc2
  have hk0 : ∀ {w'}, Keeps NoB w2.drew w' → Keeps NoB w2 w' := fun hk => (Keeps.refl NoB w2).drew.trans hk
  have hle : (ofP l).2.length ≤ 100000000000 := by
    have h1 := srtd_le (keepF (fun s => !decide (nameOk s)) l)
    have h2 := keepF_le (fun s => !decide (nameOk s)) l l.length
    rw [List.take_length] at h2
    show (srtd _).length ≤ _
    omega
  (repeat first | apply wr_end | apply wc_seq)
  refine wc_drawP (l := _) 3 _ (by kernel_rfl) (by kernel_rfl) rfl (by kernel_rfl) (by kernel_rfl) (by decide) ?_
  apply chP_pure
  focus
    intro xx w' hk hF
    refine wr_loadAll (cs := [.bool aA, .slice an al.length cn]) rfl rfl rfl ((hk0 hk).heap hc12 (fun h => h)) rfl ?_
    apply wr_nil
    exact ⟨rfl, Keeps.refl _ _⟩
  focus (intro xx yy h; rfl)
  focus kernel_rfl
  apply chP_pure
  focus
    intro xx w' hk hF
    apply wr_move; exact rfl; with_reducible (conv => enter [6, 3]; whnf)
    apply wr_nil
    exact ⟨rfl, Keeps.refl _ _⟩
  focus (intro xx yy h; rfl)
  focus kernel_rfl
  refine chP_fact (fun y => y) (fun y w' => SetR w' (ofP l) y) (fun y w' w'' h k => h.keep k) ?_ ?_
  · intro xx w' hk hF
    refine wr_call (vs := [lv]) rfl (of_ca l lv w' (hl.keep (hkw2.trans (hk0 hk)) (fun _ _ h => h)) (by omega) hok) rfl ?_
    rintro v w'' ⟨ho, hkc⟩
    apply wr_nil
    exact ⟨v, rfl, ho, hkc⟩
  refine chP_nil ?_
  intro xx w3 hk3' hF
  have hR3 : SetR w3 (ofP l) (xx 2) := hF 2 (by decide)
  have hk3 := hk0 hk3'
  have hc3 := hk3.heap hc2 (fun h => h)
  have has3 := has.keep (hkw2.trans hk3) (fun _ _ h => h)
  obtain ⟨v3, he3, hs3⟩ := hR3
  obtain ⟨a3, c3, rfl, _, _⟩ := slr_strs hs3
  refine wr_buildSlice (vs := [SetV aA (.slice an al.length cn), SetV (ofP l).1 (.slice a3 (ofP l).2.length c3)]) rfl (by rw [← he3]; rfl) (by intro v hv; simp at hv; rcases hv with rfl | rfl <;> rfl) rfl (by decide) (by decide) (by decide) ?_
  refine wr_name ?_
  intro w4 hw4
  have hk4 : Keeps NoB w3 w4 := by rw [hw4]; exact (Keeps.refl NoB w3).alloc _
  have hR4 : SetsAt w4 [((aA, al), .slice an al.length cn), (ofP l, .slice a3 (ofP l).2.length c3)] (.slice (some ⟨w3.heap.size, 0, none⟩) 2 2) := by
    refine ⟨⟨rfl, _, _, rfl, Nat.le_refl _, .inr ⟨_, 0, #[.bool aA, .slice an al.length cn, .bool (ofP l).1, .slice a3 (ofP l).2.length c3], 26, (0, 0), rfl, by rw [hw4]; exact heap_alloc_same _ _, fun j hj => by rw [Nat.zero_add, ← Array.getElem?_toList]; rfl⟩⟩, ?_⟩
    intro x hx
    simp at hx
    rcases hx with rfl | rfl
    · exact has3.keep hk4 (fun _ _ h => h)
    · exact hs3.keep hk4 (fun _ _ h => h)
  clear hw4
  refine wr_call (vs := [.slice (some ⟨w3.heap.size, 0, none⟩) 2 2]) rfl (union_ca _ _ w4 hR4 (by simp) (by simp [uN]; omega)) rfl ?_
  rintro v w5 ⟨hR5', hk5'⟩
  have hR5 : SetR w5 (unionP [(aA, al), ofP l]) v := hR5'
  have hk5 : Keeps NoB w3 w5 := hk4.trans hk5'
  obtain ⟨v5, rfl, hs5⟩ := hR5
  obtain ⟨a5, c5, rfl, _, _⟩ := slr_strs hs5
  obtain ⟨A5, hA5⟩ : ∃ A5, A5 = (unionP [(aA, al), ofP l]).1 := ⟨_, rfl⟩
  obtain ⟨n5, hn5⟩ : ∃ n5, n5 = (unionP [(aA, al), ofP l]).2.length := ⟨_, rfl⟩
  rw [← hA5, ← hn5]
  have hc5 := hk5.heap hc3 (fun h => h)
  refine wr_storeAll (cs := [.bool A5, .slice a5 n5 c5]) rfl rfl rfl (by intro u hu; simp at hu; rcases hu with rfl | rfl <;> rfl) hc5 rfl rfl ?_
  (repeat first | apply wr_end | (apply wc_ret; try simp only [thenE, inBlockE, bodyQ]))
  have hlt5 := lt_of_heap hc5
  have hkp : Keeps (· = b2) w5 (w5.putObj b2 (.cells [.bool A5, .slice a5 n5 c5].toArray 26 (0, 0))) := (Keeps.refl _ w5).put _ (fun _ => rfl)
  refine leaveN (vs := [SetV A5 (.slice a5 n5 c5)]) (resv_cells (cs := [.bool A5, .slice a5 n5 c5]) rfl rfl (World.putObj_heap_same hlt5) rfl resv_nil) ⟨⟨.slice a5 n5 c5, by rw [hA5, hn5]; rfl, ?_⟩, Keeps.trans' ((hkw2.trans hk3).trans hk5) hkp (fun i hi e => by have := hk1.size; omega)⟩
  rw [← hn5] at hs5 ⊢
  exact slS_put hc5 (by intro x h; cases h) hn5 hs5 hkp
end Go.Proofs.YtahlhldkcekbfaaGreatDoor
