/- names.Of, List. -/
import Derived.Test.YtahlhldkcekbfaaGreatDoorNp
namespace Go.Proofs.YtahlhldkcekbfaaGreatDoor
open Go Go.V Go.RowKit
set_option linter.unusedVariables false
set_option linter.unusedSimpArgs false

set_option maxRecDepth 100000 in
set_option maxHeartbeats 1000000 in
theorem delNil_ca (dv : Value) (w : World) :
    Ca Tryz.prog 46 #[.slice none 0 0, dv] w fun r w' => r = .slice none 0 0 ∧ Keeps NoB w w' := by
  refine ca_of_body (args := [.slice none 0 0, dv]) Tryz.func46 rfl (by kernel_rfl) ?_
  (repeat first | (apply wr_move; exact rfl; with_reducible (conv => enter [6, 3]; whnf)) | (apply wr_assign; exact rfl; with_reducible (conv => enter [6, 3]; whnf)) | apply wr_end | apply wc_seq | apply wc_region)
  refine wr_call (vs := [.slice none 0 0, dv]) rfl (indexFuncS_ca [] dv (.slice none 0 0) (fun i w' => Keeps NoB w w') (fun i w' => False) w (by simp) (Keeps.refl _ _) (fun i w' _ => ⟨rfl, none, 0, rfl, Nat.le_refl _, .inl ⟨rfl, fun _ => rfl⟩⟩) (fun i x w' h => by cases h)) rfl ?_
  rintro v w2 (⟨i, rfl, hi, h⟩ | ⟨rfl, hk⟩)
  · exact h.elim
  (repeat first | (apply wr_move; exact rfl; with_reducible (conv => enter [6, 3]; whnf)) | (apply wr_assign; exact rfl; with_reducible (conv => enter [6, 3]; whnf)) | apply wr_end | apply wc_seq | apply wc_region | (apply wr_cmp; (iterate 3 exact rfl); exact cmpT (by dsimp only [cmpP]; first | done | omega)) | (apply wc_true; exact rfl) | (apply wc_ret; try simp only [thenE, inBlockE, bodyQ]))
  exact leave1 (v := .slice none 0 0) rfl rfl ⟨rfl, hk⟩
theorem del_ca (p : List UInt8 → Bool) (dv : Value) {base n : Nat} {v : Value} {l : TX} (w : World) (h : w.ownsRow base 9 1 v n (SL l)) (hn : n ≤ 8796093022000)
    (hf : ∀ x ∈ l, ∀ w', Keeps (fun k => v.ownBlock = some k) w w' → CallV Tryz.prog dv #[S x] w' fun v w'' => v = .bool (p x) ∧ Keeps NoB w' w'') :
    Ca Tryz.prog 46 #[v, dv] w fun r w' => w'.ownsRow base 9 1 r (keepF p l).length (SL (keepF p l)) ∧ Keeps (fun k => v.ownBlock = some k) w w' := by
  have h0 := h
  rcases h0 with ⟨hxl, ⟨rfl, hn0⟩ | ⟨g, cap, cur, rfl, hg, hb, hn', hc, hcs, htk⟩⟩
  · have hl : l = [] := by
      rw [SL_len, hn0] at hxl
      exact List.length_eq_zero_iff.1 (by omega)
    subst hl
    refine (delNil_ca dv w).mono ?_
    rintro r w' ⟨rfl, hk⟩
    exact ⟨own_nil _ _ _ _, hk.upD⟩
  · have e : (fun k => (Value.slice (some ⟨g, 0, none⟩) n cap).ownBlock = some k) = (· = g) := by
      funext k
      simp [Value.ownBlock]
      exact eq_comm
    rw [e] at hf ⊢
    refine (deleteFunc_ca p dv w h hn hf).mono ?_
    rintro r w' ⟨_, h1, h2⟩
    exact ⟨h1, h2⟩
def SetR (w : World) (s : PS) (v : Value) : Prop := ∃ nv, v = SetV s.1 nv ∧ SlR w 1 nv s.2.length (SL s.2)
theorem SetR.keep {w w' : World} {s : PS} {v : Value} (h : SetR w s v) (hk : Keeps NoB w w') : SetR w' s v := by
  obtain ⟨nv, rfl, h⟩ := h
  exact ⟨nv, rfl, h.keep hk (fun _ _ h => h)⟩
set_option maxRecDepth 100000 in
set_option maxHeartbeats 1000000 in
/-- A set whose names stand in a row of the call's own. -/
def SetO (w : World) (base : Nat) (s : PS) (v : Value) : Prop := ∃ nv, v = SetV s.1 nv ∧ w.ownsRow base 9 1 nv s.2.length (SL s.2)
theorem SetO.toR {w : World} {base : Nat} {s : PS} {v : Value} (h : SetO w base s v) : SetR w s v := by
  obtain ⟨nv, e, h⟩ := h
  exact ⟨nv, e, SlR.of_own h⟩
set_option maxRecDepth 100000 in
set_option maxHeartbeats 1000000 in
theorem ofO_ca (l : TX) (sl : Value) (w : World) (hsl : SlR w 1 sl l.length (SL l)) (hlen : l.length ≤ 8796093022000) (hok : ∀ x ∈ l, x.length ≤ 9223372036854775807) :
    Ca Tryz.prog 13 #[sl] w fun v w' => SetO w' w.heap.size (ofP l) v ∧ Keeps NoB w w' := by
  refine ca_of_body (args := [sl]) Tryz.func13 rfl (by kernel_rfl) ?_
  (repeat first | (apply wr_move; exact rfl; with_reducible (conv => enter [6, 3]; whnf)) | (apply wr_assign; exact rfl; with_reducible (conv => enter [6, 3]; whnf)) | apply wr_end | apply wc_seq | apply wc_region | (apply wr_alloc; exact rfl))
  obtain ⟨w1, hw1⟩ : ∃ w1, w1 = w.alloc (.cells (SetV false (.slice none 0 0)).cells 26) := ⟨_, rfl⟩
  obtain ⟨b1, hb1⟩ : ∃ b1, b1 = w.heap.size := ⟨_, rfl⟩
  have hk1 : Keeps NoB w w1 := by rw [hw1]; exact (Keeps.refl NoB w).alloc _
  have hc1 : w1.heap[b1]? = some (.cells #[.bool false, .slice none 0 0] 26 (0, 0)) := by rw [hw1, hb1]; exact heap_alloc_same _ _
  rw [← hw1, ← hb1]
  clear hw1
  have hsl1 := hsl.keep hk1 (fun _ _ h => h)
  refine wr_call (vs := [sl, S star]) rfl (contains_ca l star sl w1 hsl1 hlen) rfl ?_
  rintro v w2 ⟨rfl, hk2⟩
  have hsl2 := hsl1.keep hk2 (fun _ _ h => h)
  (repeat first | (apply wr_move; exact rfl; with_reducible (conv => enter [6, 3]; whnf)))
  refine wr_call (vs := [sl]) rfl (cloneO_ca l sl w2 hsl2 hlen) rfl ?_
  rintro v w3 ⟨ho, hk3⟩
  (repeat first | (apply wr_move; exact rfl; with_reducible (conv => enter [6, 3]; whnf)))
  refine wr_call (vs := [v, .func (.func 42) #[] #[]]) rfl (del_ca (fun s => !decide (nameOk s)) _ w3 ho hlen (fun x hx w' _ => callV_of (by kernel_rfl) (wrong_ca x w' (hok x hx)))) rfl ?_
  rintro v4 w4 ⟨ho4, hk4⟩
  have hl4 : (keepF (fun s => !decide (nameOk s)) l).length ≤ 8796093022000 := by
    have := keepF_le (fun s => !decide (nameOk s)) l l.length
    rw [List.take_length] at this
    omega
  skip
  refine wr_call (vs := [v4]) rfl (sorted_ca _ v4 w4 (SlR.of_own ho4) hl4) rfl ?_
  rintro v5 w5 ⟨ho5, hk5⟩
  have hk24 : Keeps NoB w2 w4 := Keeps.trans' hk3 hk4 (fun i hi e => by have := own_ge ho e; omega)
  have hk15 := (hk2.trans hk24).trans hk5
  have hc5 := hk15.heap hc1 (fun h => h)
  obtain ⟨a5, c5, rfl, _, _⟩ := slr_strs (SlR.of_own ho5)
  obtain ⟨n5, hn5⟩ : ∃ n5, n5 = (srtd (keepF (fun s => !decide (nameOk s)) l)).length := ⟨_, rfl⟩
  rw [← hn5] at ho5 ⊢
  skip
  refine wr_build (ps := [(0, .bool (decide (star ∈ l))), (1, .slice a5 n5 c5)]) (cs := [.bool (decide (star ∈ l)), .slice a5 n5 c5]) rfl rfl rfl rfl ?_
  refine wr_storeAll (cs := [.bool (decide (star ∈ l)), .slice a5 n5 c5]) rfl rfl rfl (by intro u hu; simp at hu; rcases hu with rfl | rfl <;> rfl) hc5 rfl rfl ?_
  (repeat first | apply wr_end | (apply wc_ret; try simp only [thenE, inBlockE, bodyQ]))
  have hlt5 := lt_of_heap hc5
  have hkp : Keeps (· = b1) w5 (w5.putObj b1 (.cells [.bool (decide (star ∈ l)), .slice a5 n5 c5].toArray 26 (0, 0))) := (Keeps.refl _ w5).put _ (fun _ => rfl)
  refine leaveN (vs := [SetV (decide (star ∈ l)) (.slice a5 n5 c5)]) (resv_cells (cs := [.bool (decide (star ∈ l)), .slice a5 n5 c5]) rfl rfl (World.putObj_heap_same hlt5) rfl resv_nil) ⟨⟨.slice a5 n5 c5, rfl, ?_⟩, Keeps.trans' (hk1.trans hk15) hkp (fun i hi e => by omega)⟩
  show World.ownsRow _ _ _ 1 _ (srtd _).length (SL (srtd _))
  rw [← hn5]
  exact own_down (own_keep ho5 hkp (fun b hb e => by have := own_ge ho5 hb; have h1 := lt_of_heap hc1; have := (hk2.trans hk24).size; omega)) (by have := hk1.size; have := (hk2.trans hk24).size; omega)
theorem of_ca (l : TX) (sl : Value) (w : World) (hsl : SlR w 1 sl l.length (SL l)) (hlen : l.length ≤ 8796093022000) (hok : ∀ x ∈ l, x.length ≤ 9223372036854775807) :
    Ca Tryz.prog 13 #[sl] w fun v w' => SetR w' (ofP l) v ∧ Keeps NoB w w' :=
  (ofO_ca l sl w hsl hlen hok).mono fun v w' h => ⟨h.1.toR, h.2⟩
set_option maxRecDepth 100000 in
set_option maxHeartbeats 1000000 in
theorem listO_ca (s : PS) (sv : Value) (w : World) (hs : SetR w s sv) (hlen : s.2.length ≤ 8796093022000) :
    Ca Tryz.prog 38 #[sv] w fun v w' => w'.ownsRow w.heap.size 9 1 v (listP s).length (SL (listP s)) ∧ Keeps NoB w w' := by
  obtain ⟨nv, rfl, hsl⟩ := hs
  obtain ⟨a, l⟩ := s
  dsimp only at hsl hlen ⊢
  obtain ⟨an, cn, rfl, _, _⟩ := slr_strs hsl
  refine ca_of_body (args := [SetV a (.slice an l.length cn)]) Tryz.func38 rfl (by kernel_rfl) ?_
  apply wc_seq
  apply wc_region
  refine wr_box (v := SetV a (.slice an l.length cn)) rfl rfl ?_
  obtain ⟨w1, hw1⟩ : ∃ w1, w1 = w.alloc (.cells (SetV a (.slice an l.length cn)).cells 26) := ⟨_, rfl⟩
  obtain ⟨b1, hb1⟩ : ∃ b1, b1 = w.heap.size := ⟨_, rfl⟩
  have hk1 : Keeps NoB w w1 := by rw [hw1]; exact (Keeps.refl NoB w).alloc _
  have hc1 : w1.heap[b1]? = some (.cells #[.bool a, .slice an l.length cn] 26 (0, 0)) := by rw [hw1, hb1]; exact heap_alloc_same _ _
  rw [← hw1, ← hb1]
  clear hw1
  have hsl1 := hsl.keep hk1 (fun _ _ h => h)
  cases a with
  | true =>
    (repeat first | (apply wr_assign; exact rfl; with_reducible (conv => enter [6, 3]; whnf)) | apply wr_end | apply wc_seq | apply wc_region | (apply wr_fieldAddr; iterate 2 exact rfl) | (apply wr_load; (iterate 3 exact rfl); (focus repeat first | with_reducible assumption | exact heap_alloc_same _ _ | exact World.putObj_heap_same (by first | omega | (simp only [World.size_alloc, World.putObj_size, ne_eq]; omega)) | ((first | refine hAl ?_ ?_ | refine hPu ?_ ?_); focus first | omega | (simp only [World.size_alloc, World.putObj_size, ne_eq]; omega))); exact rfl; conv => enter [6, 3]; whnf) | (apply wc_true; exact rfl))
    refine wr_buildSlice (vs := [S star]) rfl rfl (by intro v hv; simp at hv; subst hv; rfl) rfl (by decide) (by decide) (by decide) ?_
    obtain ⟨w2, hw2⟩ : ∃ w2, w2 = w1.alloc (.cells ([S star].flatMap (fun v => v.cells.toList)).toArray 9) := ⟨_, rfl⟩
    have hk2 : Keeps NoB w1 w2 := by rw [hw2]; exact (Keeps.refl NoB w1).alloc _
    have ho2 : w2.ownsRow w1.heap.size 9 1 (.slice (some ⟨w1.heap.size, 0, none⟩) 1 1) 1 [S star] := ⟨rfl, .inr ⟨w1.heap.size, 1, #[S star], rfl, Nat.le_refl _, by rw [hw2]; exact heap_alloc_same _ _, Nat.le_refl _, by decide, rfl, rfl⟩⟩
    rw [← hw2]
    have hs2 : w1.heap.size ≤ w2.heap.size := hk2.size
    have hc2 := hk2.heap hc1 (fun h => h)
    clear hw2
    (repeat first | (apply wr_fieldAddr; iterate 2 exact rfl) | (apply wr_load; (iterate 3 exact rfl); (focus repeat first | with_reducible assumption | exact heap_alloc_same _ _ | exact World.putObj_heap_same (by first | omega | (simp only [World.size_alloc, World.putObj_size, ne_eq]; omega)) | ((first | refine hAl ?_ ?_ | refine hPu ?_ ?_); focus first | omega | (simp only [World.size_alloc, World.putObj_size, ne_eq]; omega))); exact rfl; conv => enter [6, 3]; whnf))
    refine wr_appendR (v := .slice (some ⟨w1.heap.size, 0, none⟩) 1 1) (base := w1.heap.size) (n := 1) (m := l.length) (xs := [S star]) (news := SL l) rfl rfl ho2 rfl (hsl1.keep hk2 (fun _ _ h => h)) (by intro u hu; simp [SL] at hu; obtain ⟨x, _, rfl⟩ := hu; rfl) rfl (by decide) (by omega) (by omega) (by omega) ?_
    intro v3 w3 ho3 hk3 _
    (repeat first | (apply wr_assign; exact rfl; with_reducible (conv => enter [6, 3]; whnf)) | apply wr_end | (apply wc_ret; try simp only [thenE, inBlockE, bodyQ]))
    refine leave1 (v := v3) rfl rfl ⟨?_, Keeps.trans' (hk1.trans hk2) hk3 (fun i hi e => by have := hk1.size; have e' : w1.heap.size = i := (by simpa [Value.ownBlock] using e); omega)⟩
    have e1 : (star :: l).length = 1 + l.length := by simp; omega
    show w3.ownsRow b1 9 1 v3 (star :: l).length (SL (star :: l))
    rw [e1]
    exact own_down ho3 (by rw [hb1]; exact hk1.size)
  | false =>
    (repeat first | (apply wr_assign; exact rfl; with_reducible (conv => enter [6, 3]; whnf)) | apply wr_end | apply wc_seq | apply wc_region | apply wc_skip | (apply wr_fieldAddr; iterate 2 exact rfl) | (apply wr_load; (iterate 3 exact rfl); (focus repeat first | with_reducible assumption | exact heap_alloc_same _ _ | exact World.putObj_heap_same (by first | omega | (simp only [World.size_alloc, World.putObj_size, ne_eq]; omega)) | ((first | refine hAl ?_ ?_ | refine hPu ?_ ?_); focus first | omega | (simp only [World.size_alloc, World.putObj_size, ne_eq]; omega))); exact rfl; conv => enter [6, 3]; whnf) | (apply wc_false; exact rfl))
    refine wr_call (vs := [.slice an l.length cn]) rfl (cloneO_ca l _ w1 hsl1 hlen) rfl ?_
    rintro v w2 ⟨ho, hk⟩
    (repeat first | (apply wr_assign; exact rfl; with_reducible (conv => enter [6, 3]; whnf)) | apply wr_end | (apply wc_ret; try simp only [thenE, inBlockE, bodyQ]))
    exact leave1 (v := v) rfl rfl ⟨own_down ho (by rw [hb1]; exact hk1.size), hk1.trans hk⟩
theorem list_ca (s : PS) (sv : Value) (w : World) (hs : SetR w s sv) (hlen : s.2.length ≤ 8796093022000) :
    Ca Tryz.prog 38 #[sv] w fun v w' => SlR w' 1 v (listP s).length (SL (listP s)) ∧ Keeps NoB w w' :=
  (listO_ca s sv w hs hlen).mono fun v w' h => ⟨SlR.of_own h.1, h.2⟩
end Go.Proofs.YtahlhldkcekbfaaGreatDoor
