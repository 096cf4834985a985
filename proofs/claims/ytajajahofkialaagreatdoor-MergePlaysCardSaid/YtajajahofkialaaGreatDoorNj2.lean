/- names.Of, List. -/
import Derived.Test.YtajajahofkialaaGreatDoorNh2
namespace Go.Proofs.YtajajahofkialaaGreatDoor
open Go Go.V Go.RowKit
set_option linter.unusedVariables false
set_option linter.unusedSimpArgs false

set_option maxRecDepth 100000 in
set_option maxHeartbeats 1000000 in
theorem delNil_ca (dv : Value) (w : World) :
    Ca Tryz.prog 57 #[.slice none 0 0, dv] w fun r w' => r = .slice none 0 0 ∧ Keeps NoB w w' := by
  refine ca_of_body (args := [.slice none 0 0, dv]) Tryz.func57 rfl (by kernel_rfl) ?_
  (repeat first | (apply wr_move; exact rfl; with_reducible (conv => enter [6, 3]; whnf)) | (apply wr_assign; exact rfl; with_reducible (conv => enter [6, 3]; whnf)) | apply wr_end | apply wc_seq | apply wc_region)
  refine wr_call (vs := [.slice none 0 0, dv]) rfl (indexFuncS_ca [] dv (.slice none 0 0) (fun i w' => Keeps NoB w w') (fun i w' => False) w (by simp) (Keeps.refl _ _) (fun i w' _ => ⟨rfl, none, 0, rfl, Nat.le_refl _, .inl ⟨rfl, fun _ => rfl⟩⟩) (fun i x w' h => by cases h)) rfl ?_
  rintro v w2 (⟨i, rfl, hi, h⟩ | ⟨rfl, hk⟩)
  · exact h.elim
  (repeat first | (apply wr_move; exact rfl; with_reducible (conv => enter [6, 3]; whnf)) | (apply wr_assign; exact rfl; with_reducible (conv => enter [6, 3]; whnf)) | apply wr_end | apply wc_seq | apply wc_region | (apply wr_cmp; (iterate 3 exact rfl); exact cmpT (by dsimp only [cmpP]; first | done | omega)) | (apply wc_true; exact rfl) | (apply wc_ret; try simp only [thenE, inBlockE, bodyQ]))
  exact leave1 (v := .slice none 0 0) rfl rfl ⟨rfl, hk⟩
theorem del_ca (p : List UInt8 → Bool) (dv : Value) {base n : Nat} {v : Value} {l : TX} (w : World) (h : w.ownsRow base 9 1 v n (SL l)) (hn : n ≤ 8796093022000)
    (hf : ∀ x ∈ l, ∀ w', Keeps (fun k => v.ownBlock = some k) w w' → CallV Tryz.prog dv #[S x] w' fun v w'' => v = .bool (p x) ∧ Keeps NoB w' w'') :
    Ca Tryz.prog 57 #[v, dv] w fun r w' => w'.ownsRow base 9 1 r (keepF p l).length (SL (keepF p l)) ∧ Keeps (fun k => v.ownBlock = some k) w w' := by
  have h0 := h
  rcases h0 with ⟨hxl, ⟨rfl, hn0⟩ | ⟨g, cap, cur, rfl, hg, hb, hn', hc, hcs, htk⟩⟩
  · have hl : l = [] := by
      rw [SL_len, hn0] at hxl
      exact List.length_eq_zero_iff.1 (by omega)
    subst hl
    refine (delNil_ca dv w).mono ?_
    rintro r w' ⟨rfl, hk⟩
    exact ⟨own_nil _ _ _ _, hk.upD⟩
  · have e : (fun k => (Value.slice (some ⟨g, 0, none⟩) n cap).ownBlock = some k) = (· = g) := by
      funext k
      simp [Value.ownBlock]
      exact eq_comm
    rw [e] at hf ⊢
    refine (deleteFunc_ca p dv w h hn hf).mono ?_
    rintro r w' ⟨_, h1, h2⟩
    exact ⟨h1, h2⟩
def SetR (w : World) (s : PS) (v : Value) : Prop := ∃ nv, v = SetV s.1 nv ∧ SlR w 1 nv s.2.length (SL s.2)
theorem SetR.keep {w w' : World} {s : PS} {v : Value} (h : SetR w s v) (hk : Keeps NoB w w') : SetR w' s v := by
  obtain ⟨nv, rfl, h⟩ := h
  exact ⟨nv, rfl, h.keep hk (fun _ _ h => h)⟩
set_option maxRecDepth 100000 in
set_option maxHeartbeats 1000000 in
/-- A set whose names stand in a row of the call's own. -/
def SetO (w : World) (base : Nat) (s : PS) (v : Value) : Prop := ∃ nv, v = SetV s.1 nv ∧ w.ownsRow base 9 1 nv s.2.length (SL s.2)
theorem SetO.toR {w : World} {base : Nat} {s : PS} {v : Value} (h : SetO w base s v) : SetR w s v := by
  obtain ⟨nv, e, h⟩ := h
  exact ⟨nv, e, SlR.of_own h⟩
set_option maxRecDepth 100000 in
set_option maxHeartbeats 1000000 in
theorem ofO_ca (l : TX) (sl : Value) (w : World) (hsl : SlR w 1 sl l.length (SL l)) (hlen : l.length ≤ 8796093022000) (hok : ∀ x ∈ l, x.length ≤ 9223372036854775807) :
    Ca Tryz.prog 30 #[sl] w fun v w' => SetO w' w.heap.size (ofP l) v ∧ Keeps NoB w w' := by
  refine ca_of_body (args := [sl]) Tryz.func30 rfl (by kernel_rfl) ?_
  (repeat first | (apply wr_move; exact rfl; with_reducible (conv => enter [6, 3]; whnf)) | (apply wr_assign; exact rfl; with_reducible (conv => enter [6, 3]; whnf)) | apply wr_end | apply wc_seq | apply wc_region | (apply wr_alloc; exact rfl))
  obtain ⟨w1, hw1⟩ : ∃ w1, w1 = w.alloc (.cells (SetV false (.slice none 0 0)).cells 41) := ⟨_, rfl⟩
  obtain ⟨b1, hb1⟩ : ∃ b1, b1 = w.heap.size := ⟨_, rfl⟩
  have hk1 : Keeps NoB w w1 := by rw [hw1]; exact (Keeps.refl NoB w).alloc _
  have hc1 : w1.heap[b1]? = some (.cells #[.bool false, .slice none 0 0] 41 (0, 0)) := by rw [hw1, hb1]; exact heap_alloc_same _ _
  rw [← hw1, ← hb1]
  clear hw1
  have hsl1 := hsl.keep hk1 (fun _ _ h => h)
  refine wr_call (vs := [sl, S star]) rfl (contains_ca l star sl w1 hsl1 hlen) rfl ?_
  rintro v w2 ⟨rfl, hk2⟩
  have hsl2 := hsl1.keep hk2 (fun _ _ h => h)
  (repeat first | (apply wr_move; exact rfl; with_reducible (conv => enter [6, 3]; whnf)))
  refine wr_call (vs := [sl]) rfl (cloneO_ca l sl w2 hsl2 hlen) rfl ?_
  rintro v w3 ⟨ho, hk3⟩
  (repeat first | (apply wr_move; exact rfl; with_reducible (conv => enter [6, 3]; whnf)))
  refine wr_call (vs := [v, .func (.func 53) #[] #[]]) rfl (del_ca (fun s => !decide (nameOk s)) _ w3 ho hlen (fun x hx w' _ => callV_of (by kernel_rfl) (wrong_ca x w' (hok x hx)))) rfl ?_
  rintro v4 w4 ⟨ho4, hk4⟩
  have hl4 : (keepF (fun s => !decide (nameOk s)) l).length ≤ 8796093022000 := by
    have := keepF_le (fun s => !decide (nameOk s)) l l.length
    rw [List.take_length] at this
    omega
  skip
  refine wr_call (vs := [v4]) rfl (sorted_ca _ v4 w4 (SlR.of_own ho4) hl4) rfl ?_
  rintro v5 w5 ⟨ho5, hk5⟩
  have hk24 : Keeps NoB w2 w4 := Keeps.trans' hk3 hk4 (fun i hi e => by have := own_ge ho e; omega)
  have hk15 := (hk2.trans hk24).trans hk5
  have hc5 := hk15.heap hc1 (fun h => h)
  obtain ⟨a5, c5, rfl, _, _⟩ := slr_strs (SlR.of_own ho5)
  obtain ⟨n5, hn5⟩ : ∃ n5, n5 = (srtd (keepF (fun s => !decide (nameOk s)) l)).length := ⟨_, rfl⟩
  rw [← hn5] at ho5 ⊢
  skip
  refine wr_build (ps := [(0, .bool (decide (star ∈ l))), (1, .slice a5 n5 c5)]) (cs := [.bool (decide (star ∈ l)), .slice a5 n5 c5]) rfl rfl rfl rfl ?_
  refine wr_storeAll (cs := [.bool (decide (star ∈ l)), .slice a5 n5 c5]) rfl rfl rfl (by intro u hu; simp at hu; rcases hu with rfl | rfl <;> rfl) hc5 rfl rfl ?_
  (repeat first | apply wr_end | (apply wc_ret; try simp only [thenE, inBlockE, bodyQ]))
  have hlt5 := lt_of_heap hc5
  have hkp : Keeps (· = b1) w5 (w5.putObj b1 (.cells [.bool (decide (star ∈ l)), .slice a5 n5 c5].toArray 41 (0, 0))) := (Keeps.refl _ w5).put _ (fun _ => rfl)
  refine leaveN (vs := [SetV (decide (star ∈ l)) (.slice a5 n5 c5)]) (resv_cells (cs := [.bool (decide (star ∈ l)), .slice a5 n5 c5]) rfl rfl (World.putObj_heap_same hlt5) rfl resv_nil) ⟨⟨.slice a5 n5 c5, rfl, ?_⟩, Keeps.trans' (hk1.trans hk15) hkp (fun i hi e => by omega)⟩
  show World.ownsRow _ _ _ 1 _ (srtd _).length (SL (srtd _))
  rw [← hn5]
  exact own_down (own_keep ho5 hkp (fun b hb e => by have := own_ge ho5 hb; have h1 := lt_of_heap hc1; have := (hk2.trans hk24).size; omega)) (by have := hk1.size; have := (hk2.trans hk24).size; omega)
theorem of_ca (l : TX) (sl : Value) (w : World) (hsl : SlR w 1 sl l.length (SL l)) (hlen : l.length ≤ 8796093022000) (hok : ∀ x ∈ l, x.length ≤ 9223372036854775807) :
    Ca Tryz.prog 30 #[sl] w fun v w' => SetR w' (ofP l) v ∧ Keeps NoB w w' :=
  (ofO_ca l sl w hsl hlen hok).mono fun v w' h => ⟨h.1.toR, h.2⟩
set_option maxRecDepth 100000 in
set_option maxHeartbeats 1000000 in
theorem listO_ca (s : PS) (sv : Value) (w : World) (hs : SetR w s sv) (hlen : s.2.length ≤ 8796093022000) :
    Ca Tryz.prog 33 #[sv] w fun v w' => w'.ownsRow w.heap.size 9 1 v (listP s).length (SL (listP s)) ∧ Keeps NoB w w' := by
  obtain ⟨nv, rfl, hsl⟩ := hs
  obtain ⟨a, l⟩ := s
  dsimp only at hsl hlen ⊢
  obtain ⟨an, cn, rfl, _, _⟩ := slr_strs hsl
  refine ca_of_body (args := [SetV a (.slice an l.length cn)]) Tryz.func33 rfl (by kernel_rfl) ?_
  apply wc_seq
  apply wc_region
  refine wr_box (v := SetV a (.slice an l.length cn)) rfl rfl ?_
  obtain ⟨w1, hw1⟩ : ∃ w1, w1 = w.alloc (.cells (SetV a (.slice an l.length cn)).cells 41) := ⟨_, rfl⟩
  obtain ⟨b1, hb1⟩ : ∃ b1, b1 = w.heap.size := ⟨_, rfl⟩
  have hk1 : Keeps NoB w w1 := by rw [hw1]; exact (Keeps.refl NoB w).alloc _
  have hc1 : w1.heap[b1]? = some (.cells #[.bool a, .slice an l.length cn] 41 (0, 0)) := by rw [hw1, hb1]; exact heap_alloc_same _ _
  rw [← hw1, ← hb1]
  clear hw1
  have hsl1 := hsl.keep hk1 (fun _ _ h => h)
  cases a with
  | true =>
    (repeat first | (apply wr_assign; exact rfl; with_reducible (conv => enter [6, 3]; whnf)) | apply wr_end | apply wc_seq | apply wc_region | (apply wr_fieldAddr; iterate 2 exact rfl) | (apply wr_load; (iterate 3 exact rfl); (focus repeat first | with_reducible assumption | exact heap_alloc_same _ _ | exact World.putObj_heap_same (by first | omega | (simp only [World.size_alloc, World.putObj_size, ne_eq]; omega)) | ((first | refine hAl ?_ ?_ | refine hPu ?_ ?_); focus first | omega | (simp only [World.size_alloc, World.putObj_size, ne_eq]; omega))); exact rfl; conv => enter [6, 3]; whnf) | (apply wc_true; exact rfl))
    refine wr_buildSlice (vs := [S star]) rfl rfl (by intro v hv; simp at hv; subst hv; rfl) rfl (by decide) (by decide) (by decide) ?_
    obtain ⟨w2, hw2⟩ : ∃ w2, w2 = w1.alloc (.cells ([S star].flatMap (fun v => v.cells.toList)).toArray 9) := ⟨_, rfl⟩
    have hk2 : Keeps NoB w1 w2 := by rw [hw2]; exact (Keeps.refl NoB w1).alloc _
    have ho2 : w2.ownsRow w1.heap.size 9 1 (.slice (some ⟨w1.heap.size, 0, none⟩) 1 1) 1 [S star] := ⟨rfl, .inr ⟨w1.heap.size, 1, #[S star], rfl, Nat.le_refl _, by rw [hw2]; exact heap_alloc_same _ _, Nat.le_refl _, by decide, rfl, rfl⟩⟩
    rw [← hw2]
    have hs2 : w1.heap.size ≤ w2.heap.size := hk2.size
    have hc2 := hk2.heap hc1 (fun h => h)
    clear hw2
    (repeat first | (apply wr_fieldAddr; iterate 2 exact rfl) | (apply wr_load; (iterate 3 exact rfl); (focus repeat first | with_reducible assumption | exact heap_alloc_same _ _ | exact World.putObj_heap_same (by first | omega | (simp only [World.size_alloc, World.putObj_size, ne_eq]; omega)) | ((first | refine hAl ?_ ?_ | refine hPu ?_ ?_); focus first | omega | (simp only [World.size_alloc, World.putObj_size, ne_eq]; omega))); exact rfl; conv => enter [6, 3]; whnf))
    refine wr_appendR (v := .slice (some ⟨w1.heap.size, 0, none⟩) 1 1) (base := w1.heap.size) (n := 1) (m := l.length) (xs := [S star]) (news := SL l) rfl rfl ho2 rfl (hsl1.keep hk2 (fun _ _ h => h)) (by intro u hu; simp [SL] at hu; obtain ⟨x, _, rfl⟩ := hu; rfl) rfl (by decide) (by omega) (by omega) (by omega) ?_
    intro v3 w3 ho3 hk3 _
    (repeat first | (apply wr_assign; exact rfl; with_reducible (conv => enter [6, 3]; whnf)) | apply wr_end | (apply wc_ret; try simp only [thenE, inBlockE, bodyQ]))
    refine leave1 (v := v3) rfl rfl ⟨?_, Keeps.trans' (hk1.trans hk2) hk3 (fun i hi e => by have := hk1.size; have e' : w1.heap.size = i := (by simpa [Value.ownBlock] using e); omega)⟩
    have e1 : (star :: l).length = 1 + l.length := by simp; omega
    show w3.ownsRow b1 9 1 v3 (star :: l).length (SL (star :: l))
    rw [e1]
    exact own_down ho3 (by rw [hb1]; exact hk1.size)
  | false =>
    (repeat first | (apply wr_assign; exact rfl; with_reducible (conv => enter [6, 3]; whnf)) | apply wr_end | apply wc_seq | apply wc_region | apply wc_skip | (apply wr_fieldAddr; iterate 2 exact rfl) | (apply wr_load; (iterate 3 exact rfl); (focus repeat first | with_reducible assumption | exact heap_alloc_same _ _ | exact World.putObj_heap_same (by first | omega | (simp only [World.size_alloc, World.putObj_size, ne_eq]; omega)) | ((first | refine hAl ?_ ?_ | refine hPu ?_ ?_); focus first | omega | (simp only [World.size_alloc, World.putObj_size, ne_eq]; omega))); exact rfl; conv => enter [6, 3]; whnf) | (apply wc_false; exact rfl))
    refine wr_call (vs := [.slice an l.length cn]) rfl (cloneO_ca l _ w1 hsl1 hlen) rfl ?_
    rintro v w2 ⟨ho, hk⟩
    (repeat first | (apply wr_assign; exact rfl; with_reducible (conv => enter [6, 3]; whnf)) | apply wr_end | (apply wc_ret; try simp only [thenE, inBlockE, bodyQ]))
    exact leave1 (v := v) rfl rfl ⟨own_down ho (by rw [hb1]; exact hk1.size), hk1.trans hk⟩
theorem list_ca (s : PS) (sv : Value) (w : World) (hs : SetR w s sv) (hlen : s.2.length ≤ 8796093022000) :
    Ca Tryz.prog 33 #[sv] w fun v w' => SlR w' 1 v (listP s).length (SL (listP s)) ∧ Keeps NoB w w' :=
  (listO_ca s sv w hs hlen).mono fun v w' h => ⟨SlR.of_own h.1, h.2⟩
end Go.Proofs.YtajajahofkialaaGreatDoor

namespace Go.Proofs.YtajajahofkialaaGreatDoor
open Go Go.V Go.RowKit
set_option linter.unusedVariables false
set_option linter.unusedSimpArgs false

/-- A set among the arguments: what it is, where its names lie. -/
abbrev SE := PS × Value
def GSt (x : SE) : List Value := [.bool x.1.1, x.2]
theorem GSt_len (x : SE) : (GSt x).length = 2 := rfl
def SetsAt (w : World) (L : List SE) (sl : Value) : Prop := SlR w 2 sl L.length (L.flatMap GSt) ∧ ∀ x ∈ L, SlR w 1 x.2 x.1.2.length (SL x.1.2)
theorem SetsAt.keep {w w' : World} {L : List SE} {sl : Value} (h : SetsAt w L sl) (hk : Keeps NoB w w') : SetsAt w' L sl := ⟨h.1.keep hk (fun _ _ h => h), fun x hx => (h.2 x hx).keep hk (fun _ _ h => h)⟩
def uA (L : List SE) (k : Nat) : Bool := ((L.take k).map (·.1)).any (·.1)
def uN (L : List SE) (k : Nat) : TX := ((L.take k).map (·.1)).flatMap (·.2)
theorem uA_step {L : List SE} {k : Nat} {x : SE} (h : L[k]? = some x) : uA L (k + 1) = (uA L k || x.1.1) := by
  unfold uA
  rw [List.take_add_one, h, List.map_append, List.any_append]
  simp
theorem uN_step {L : List SE} {k : Nat} {x : SE} (h : L[k]? = some x) : uN L (k + 1) = uN L k ++ x.1.2 := by
  unfold uN
  rw [List.take_add_one, h, List.map_append, List.flatMap_append]
  simp
theorem uN_le (L : List SE) (k : Nat) : (uN L k).length ≤ (uN L L.length).length := by
  unfold uN
  rw [List.take_length]
  conv => rhs; rw [← List.take_append_drop k L]
  rw [List.map_append, List.flatMap_append, List.length_append]
  exact Nat.le_add_right _ _
theorem SL_append (a b : TX) : SL a ++ SL b = SL (a ++ b) := by simp [SL]
theorem wr_name {P : Program} {ops : Array Oper} {Q : Post} {ds : List Deferred} {l : List Oper} {f : Env} {w : World} (kk : ∀ w', w' = w → Wr P ops Q ds l f w') : Wr P ops Q ds l f w := kk w rfl
set_option maxRecDepth 100000 in
set_option maxHeartbeats 2000000 in
theorem union_ca (L : List SE) (sl : Value) (w : World) (h : SetsAt w L sl) (hL : L.length ≤ 8796093022000) (hlen : (uN L L.length).length ≤ 8796093022000) :
    Ca Tryz.prog 32 #[sl] w fun v w' => SetR w' (unionP (L.map (·.1))) v ∧ Keeps NoB w w' := by
  obtain ⟨hsl, hel⟩ := h
  obtain ⟨a, c, rfl, hc, hat⟩ := hsl.shape
  refine ca_of_body (args := [.slice a L.length c]) Tryz.func32 rfl (by kernel_rfl) ?_
  (repeat first | (apply wr_move; exact rfl; with_reducible (conv => enter [6, 3]; whnf)) | apply wr_end | apply wc_seq | apply wc_region | apply wc_block | (apply wr_len_slice; iterate 2 exact rfl) | (apply wr_alloc; exact rfl))
  obtain ⟨w1, hw1⟩ : ∃ w1, w1 = w.alloc (.cells (SetV false (.slice none 0 0)).cells 41) := ⟨_, rfl⟩
  obtain ⟨b1, hb1⟩ : ∃ b1, b1 = w.heap.size := ⟨_, rfl⟩
  have hk1 : Keeps NoB w w1 := by rw [hw1]; exact (Keeps.refl NoB w).alloc _
  have hc1 : w1.heap[b1]? = some (.cells #[.bool false, .slice none 0 0] 41 (0, 0)) := by rw [hw1, hb1]; exact heap_alloc_same _ _
  rw [← hw1, ← hb1]
  clear hw1
  obtain ⟨w2, hw2⟩ : ∃ w2, w2 = w1.alloc (.cells (SetV false (.slice none 0 0)).cells 41) := ⟨_, rfl⟩
  obtain ⟨b2, hb2⟩ : ∃ b2, b2 = w1.heap.size := ⟨_, rfl⟩
  have hk2 : Keeps NoB w1 w2 := by rw [hw2]; exact (Keeps.refl NoB w1).alloc _
  have hc2 : w2.heap[b2]? = some (.cells #[.bool false, .slice none 0 0] 41 (0, 0)) := by rw [hw2, hb2]; exact heap_alloc_same _ _
  rw [← hw2, ← hb2]
  clear hw2
  have hkw2 := hk1.trans hk2
  have hl1 := lt_of_heap hc1
  have hl2 := lt_of_heap hc2
  have hb12 : b1 < b2 := by omega
  skip
  refine wc_loopL (α := Nat) (fun k => [(2, .pointer (some ⟨b1, 0, none⟩)), (3, .pointer (some ⟨b2, 0, none⟩)), (6, .slice a L.length c), (7, .int .i64 (L.length : Int)), (8, .int .i64 (k : Int))])
    (fun k ds w' => ds = [] ∧ k ≤ L.length ∧ (∃ nv, w'.heap[b2]? = some (.cells #[.bool (uA L k), nv] 41 (0, 0)) ∧ w'.ownsRow w2.heap.size 9 1 nv (uN L k).length (SL (uN L k))) ∧ Keeps (· = b2) w2 w') (fun k => L.length - k) 0
    ⟨rfl, Nat.zero_le _, ⟨_, hc2, own_nil _ _ _ _⟩, Keeps.refl _ _⟩ ⟨rfl, rfl, rfl, rfl, rfl, trivial⟩ ?_
  rintro k ds f0 w3 ⟨rfl, hkL, ⟨nv, hc3, ho3⟩, hk3⟩
  have hkw3 : Keeps NoB w w3 := Keeps.trans' hkw2 hk3 (fun i hi e => by have := hk1.size; omega)
  have hs3 := hk3.size
  by_cases hlt : k < L.length
  · obtain ⟨x, hx⟩ : ∃ x, L[k]? = some x := ⟨L[k], by simp [hlt]⟩
    obtain ⟨b, o, rfl, cur, e, fr, hb, hr⟩ := hat (by omega)
    have hb3 := hkw3.heap hb (fun h => h)
    have hxs0 := hel x (List.mem_of_getElem? hx)
    have hxs := hxs0.keep hkw3 (fun _ _ h => h)
    have hsA := uA_step hx
    have hsN := uN_step hx
    have hN1 := uN_le L (k + 1)
    rw [hsN, List.length_append] at hN1
    obtain ⟨⟨xa, xl⟩, xv⟩ := x
    dsimp only at hxs0 hxs hsA hsN hN1
    obtain ⟨ax, cx, rfl, _, _⟩ := slr_strs hxs
    (repeat first | apply wr_end | apply wc_seq | apply wc_region | apply wc_skip | apply wc_block | (apply wr_cmp; (iterate 3 exact rfl); exact cmpT (by dsimp only [cmpP]; first | done | omega)) | (apply wc_true; exact rfl))
    refine wr_indexAddr (i := k) rfl rfl rfl hlt ?_
    refine wr_loadElem (G := GSt) (n := L.length) (l := L) rfl rfl GSt_len rfl hb3 hr hlt hx rfl ?_
    (repeat first | (apply wr_alloc; exact rfl))
    refine wr_storeAll (cs := [.bool xa, .slice ax xl.length cx]) rfl rfl rfl (by intro u hu; simp at hu; rcases hu with rfl | rfl <;> rfl) (heap_alloc_same _ _) rfl rfl ?_
    obtain ⟨w4, hw4⟩ : ∃ w4, w4 = (w3.alloc (.cells (SetV false (.slice none 0 0)).cells 41)).putObj w3.heap.size (.cells [.bool xa, .slice ax xl.length cx].toArray 41 (0, 0)) := ⟨_, rfl⟩
    obtain ⟨b4, hb4⟩ : ∃ b4, b4 = w3.heap.size := ⟨_, rfl⟩
    have hk4 : Keeps NoB w3 w4 := by rw [hw4]; exact ((Keeps.refl NoB w3).alloc _).put _ (fun h => by omega)
    have hc4 : w4.heap[b4]? = some (.cells #[.bool xa, .slice ax xl.length cx] 41 (0, 0)) := by rw [hw4, hb4]; exact World.putObj_heap_same (by simp)
    rw [← hw4, ← hb4]
    clear hw4
    have hc24 := hk4.heap hc3 (fun h => h)
    have ho4 := own_keep ho3 hk4 (fun _ _ h => h)
    have hxs4 := hxs.keep hk4 (fun _ _ h => h)
    have hs4 := hk4.size
    have hl3 := lt_of_heap hc3
    have hN0 : (uN L k).length + xl.length ≤ 8796093022000 := by omega
    obtain ⟨an, cn, rfl, _, _⟩ := slr_strs (SlR.of_own ho4)
    have hN : ∀ (B : Bool) (w5 : World), (uA L k || xa) = B → w5 = w4.putObj b2 (.cells ((#[.bool (uA L k), .slice an (uN L k).length cn] : Array Value).setIfInBounds (0 + 0) (.bool B)) 41 (0, 0)) → w5.heap[b2]? = some (.cells #[.bool B, .slice an (uN L k).length cn] 41 (0, 0)) ∧ Keeps (· = b2) w4 w5 := by
      intro B w5 _ e
      refine ⟨?_, by rw [e]; exact (Keeps.refl _ _).put _ (fun _ => rfl)⟩
      rw [e, World.putObj_heap_same (lt_of_heap hc24)]; rfl
    cases hA : uA L k with
    | true =>
      rw [hA] at hc24 hN hsA
      (repeat first | (apply wr_move; exact rfl; with_reducible (conv => enter [6, 3]; whnf)) | apply wr_end | apply wc_seq | apply wc_region | (apply wr_fieldAddr; iterate 2 exact rfl) | (apply wr_load; (iterate 3 exact rfl); (focus repeat first | with_reducible assumption | exact heap_alloc_same _ _ | exact World.putObj_heap_same (by first | omega | (simp only [World.size_alloc, World.putObj_size, ne_eq]; omega)) | ((first | refine hAl ?_ ?_ | refine hPu ?_ ?_); focus first | omega | (simp only [World.size_alloc, World.putObj_size, ne_eq]; omega))); exact rfl; conv => enter [6, 3]; whnf) | (apply wr_pick (t := true); (iterate 2 exact rfl); with_reducible (conv => enter [6, 3]; whnf)) | (apply wr_store; (iterate 3 exact rfl); (first | exact rfl | with_reducible assumption); (focus repeat first | with_reducible assumption | exact heap_alloc_same _ _ | exact World.putObj_heap_same (by first | omega | (simp only [World.size_alloc, World.putObj_size, ne_eq]; omega)) | ((first | refine hAl ?_ ?_ | refine hPu ?_ ?_); focus first | omega | (simp only [World.size_alloc, World.putObj_size, ne_eq]; omega))); exact rfl) | (apply wr_skip; exact rfl))
      refine wr_name ?_
      intro w5 hw5
      obtain ⟨hc5, hk5⟩ := hN true w5 (by simp) hw5
      clear hw5
      have ho5 := own_keep ho4 hk5 (fun b hb e => by have := own_ge ho4 hb; omega)
      have hs5 := hk5.size
      refine wr_appendR (v := .slice an (uN L k).length cn) (base := w2.heap.size) (n := (uN L k).length) (m := xl.length) (xs := SL (uN L k)) (news := SL xl) rfl rfl ho5 rfl (hxs0.keep (Keeps.trans' (hkw3.trans hk4) hk5 (fun i hi e => by have := hk1.size; omega)) (fun _ _ h => h)) (by intro u hu; simp [SL] at hu; obtain ⟨x, _, rfl⟩ := hu; rfl) rfl (by decide) (by omega) (by omega) (by omega) ?_
      intro v6 w6 ho6 hk6 _
      rw [SL_append, ← List.length_append, ← hsN] at ho6
      have hc6 := hk6.heap hc5 (fun e => by have := own_ge ho5 e; omega)
      obtain ⟨a6, c6, rfl, _, _⟩ := slr_strs (SlR.of_own ho6)
      have hP : ∀ w7, w7 = w6.putObj b2 (.cells ((#[.bool true, .slice an (uN L k).length cn] : Array Value).setIfInBounds (0 + 1) (.slice a6 (uN L (k + 1)).length c6)) 41 (0, 0)) → (w7.heap[b2]? = some (.cells #[.bool (uA L (k + 1)), .slice a6 (uN L (k + 1)).length c6] 41 (0, 0)) ∧ w7.ownsRow w2.heap.size 9 1 (.slice a6 (uN L (k + 1)).length c6) (uN L (k + 1)).length (SL (uN L (k + 1)))) ∧ Keeps (· = b2) w2 w7 := by
        intro w7 hw7
        have hk7 : Keeps (· = b2) w6 w7 := by rw [hw7]; exact (Keeps.refl _ _).put _ (fun _ => rfl)
        have h25 : Keeps (· = b2) w2 w5 := hk3.trans (hk4.upD.trans hk5)
        refine ⟨⟨?_, own_keep ho6 hk7 (fun b hb e => by have := own_ge ho6 hb; omega)⟩, (Keeps.trans' h25 hk6 (fun i hi e => by have := own_ge ho5 e; omega)).trans hk7⟩
        rw [hw7, World.putObj_heap_same (lt_of_heap hc6), hsA]; rfl
      (repeat first | (apply wr_move; exact rfl; with_reducible (conv => enter [6, 3]; whnf)) | apply wr_end | apply wc_region | (apply wr_fieldAddr; iterate 2 exact rfl) | (apply wr_add; (iterate 3 exact rfl); exact w_fit (by dsimp only [kIn]; first | done | omega)) | (apply wr_store; (iterate 3 exact rfl); (first | exact rfl | with_reducible assumption); (focus repeat first | with_reducible assumption | exact heap_alloc_same _ _ | exact World.putObj_heap_same (by first | omega | (simp only [World.size_alloc, World.putObj_size, ne_eq]; omega)) | ((first | refine hAl ?_ ?_ | refine hPu ?_ ?_); focus first | omega | (simp only [World.size_alloc, World.putObj_size, ne_eq]; omega))); exact rfl) | (apply wr_nil; try simp only [thenE, inBlockE, bodyQ]))
      exact ⟨k + 1, by omega, ⟨by trivial, hlt, ⟨_, (hP _ rfl).1⟩, (hP _ rfl).2⟩, rfl, rfl, rfl, rfl, by simp, trivial⟩
    | false =>
      rw [hA] at hc24 hN hsA
      (repeat first | (apply wr_move; exact rfl; with_reducible (conv => enter [6, 3]; whnf)) | apply wr_end | apply wc_seq | apply wc_region | (apply wr_fieldAddr; iterate 2 exact rfl) | (apply wr_load; (iterate 3 exact rfl); (focus repeat first | with_reducible assumption | exact heap_alloc_same _ _ | exact World.putObj_heap_same (by first | omega | (simp only [World.size_alloc, World.putObj_size, ne_eq]; omega)) | ((first | refine hAl ?_ ?_ | refine hPu ?_ ?_); focus first | omega | (simp only [World.size_alloc, World.putObj_size, ne_eq]; omega))); exact rfl; conv => enter [6, 3]; whnf) | (apply wr_pick (t := false); (iterate 2 exact rfl); with_reducible (conv => enter [6, 3]; whnf)) | (apply wr_store; (iterate 3 exact rfl); (first | exact rfl | with_reducible assumption); (focus repeat first | with_reducible assumption | exact heap_alloc_same _ _ | exact World.putObj_heap_same (by first | omega | (simp only [World.size_alloc, World.putObj_size, ne_eq]; omega)) | ((first | refine hAl ?_ ?_ | refine hPu ?_ ?_); focus first | omega | (simp only [World.size_alloc, World.putObj_size, ne_eq]; omega))); exact rfl))
      refine wr_name ?_
      intro w5 hw5
      obtain ⟨hc5, hk5⟩ := hN xa w5 (by simp) hw5
      clear hw5
      have ho5 := own_keep ho4 hk5 (fun b hb e => by have := own_ge ho4 hb; omega)
      have hs5 := hk5.size
      refine wr_appendR (v := .slice an (uN L k).length cn) (base := w2.heap.size) (n := (uN L k).length) (m := xl.length) (xs := SL (uN L k)) (news := SL xl) rfl rfl ho5 rfl (hxs0.keep (Keeps.trans' (hkw3.trans hk4) hk5 (fun i hi e => by have := hk1.size; omega)) (fun _ _ h => h)) (by intro u hu; simp [SL] at hu; obtain ⟨x, _, rfl⟩ := hu; rfl) rfl (by decide) (by omega) (by omega) (by omega) ?_
      intro v6 w6 ho6 hk6 _
      rw [SL_append, ← List.length_append, ← hsN] at ho6
      have hc6 := hk6.heap hc5 (fun e => by have := own_ge ho5 e; omega)
      obtain ⟨a6, c6, rfl, _, _⟩ := slr_strs (SlR.of_own ho6)
      have hP : ∀ w7, w7 = w6.putObj b2 (.cells ((#[.bool xa, .slice an (uN L k).length cn] : Array Value).setIfInBounds (0 + 1) (.slice a6 (uN L (k + 1)).length c6)) 41 (0, 0)) → (w7.heap[b2]? = some (.cells #[.bool (uA L (k + 1)), .slice a6 (uN L (k + 1)).length c6] 41 (0, 0)) ∧ w7.ownsRow w2.heap.size 9 1 (.slice a6 (uN L (k + 1)).length c6) (uN L (k + 1)).length (SL (uN L (k + 1)))) ∧ Keeps (· = b2) w2 w7 := by
        intro w7 hw7
        have hk7 : Keeps (· = b2) w6 w7 := by rw [hw7]; exact (Keeps.refl _ _).put _ (fun _ => rfl)
        have h25 : Keeps (· = b2) w2 w5 := hk3.trans (hk4.upD.trans hk5)
        refine ⟨⟨?_, own_keep ho6 hk7 (fun b hb e => by have := own_ge ho6 hb; omega)⟩, (Keeps.trans' h25 hk6 (fun i hi e => by have := own_ge ho5 e; omega)).trans hk7⟩
        rw [hw7, World.putObj_heap_same (lt_of_heap hc6), hsA]; rfl
      (repeat first | (apply wr_move; exact rfl; with_reducible (conv => enter [6, 3]; whnf)) | apply wr_end | apply wc_region | (apply wr_fieldAddr; iterate 2 exact rfl) | (apply wr_add; (iterate 3 exact rfl); exact w_fit (by dsimp only [kIn]; first | done | omega)) | (apply wr_store; (iterate 3 exact rfl); (first | exact rfl | with_reducible assumption); (focus repeat first | with_reducible assumption | exact heap_alloc_same _ _ | exact World.putObj_heap_same (by first | omega | (simp only [World.size_alloc, World.putObj_size, ne_eq]; omega)) | ((first | refine hAl ?_ ?_ | refine hPu ?_ ?_); focus first | omega | (simp only [World.size_alloc, World.putObj_size, ne_eq]; omega))); exact rfl) | (apply wr_nil; try simp only [thenE, inBlockE, bodyQ]))
      exact ⟨k + 1, by omega, ⟨by trivial, hlt, ⟨_, (hP _ rfl).1⟩, (hP _ rfl).2⟩, rfl, rfl, rfl, rfl, by simp, trivial⟩
  · have he : k = L.length := by omega
    subst he
    (repeat first | apply wr_end | apply wc_seq | apply wc_region | (apply wr_fieldAddr; iterate 2 exact rfl) | (apply wr_load; (iterate 3 exact rfl); (focus repeat first | with_reducible assumption | exact heap_alloc_same _ _ | exact World.putObj_heap_same (by first | omega | (simp only [World.size_alloc, World.putObj_size, ne_eq]; omega)) | ((first | refine hAl ?_ ?_ | refine hPu ?_ ?_); focus first | omega | (simp only [World.size_alloc, World.putObj_size, ne_eq]; omega))); exact rfl; conv => enter [6, 3]; whnf) | (apply wr_cmp; (iterate 3 exact rfl); exact cmpF (by dsimp only [cmpN]; first | done | omega)) | (apply wc_false; exact rfl) | (apply wc_exit; try simp only [thenE, inBlockE, bodyQ, ↓reduceIte, Nat.reduceEqDiff]))
    refine wr_call (vs := [nv]) rfl (sorted_ca _ nv w3 (SlR.of_own ho3) hlen) rfl ?_
    rintro v5 w5 ⟨ho5, hk5⟩
    have hc5 := hk5.heap hc3 (fun h => h)
    obtain ⟨a5, c5, rfl, _, _⟩ := slr_strs (SlR.of_own ho5)
    obtain ⟨n5, hn5⟩ : ∃ n5, n5 = (srtd (uN L L.length)).length := ⟨_, rfl⟩
    rw [← hn5] at ho5 ⊢
    have hl3 := lt_of_heap hc3
    have hs5 := hk5.size
    have hW : ∀ w8, w8 = (w5.putObj b2 (.cells ((#[.bool (uA L L.length), nv] : Array Value).setIfInBounds (0 + 1) (.slice a5 n5 c5)) 41 (0, 0))) → w8.heap[b2]? = some (.cells #[.bool (uA L L.length), .slice a5 n5 c5] 41 (0, 0)) ∧ Keeps (· = b2) w5 w8 := by
      intro w8 e
      refine ⟨?_, by rw [e]; exact (Keeps.refl _ _).put _ (fun _ => rfl)⟩
      rw [e, World.putObj_heap_same (by omega)]; rfl
    (repeat first | apply wr_end | apply wc_seq | apply wc_region | (apply wr_fieldAddr; iterate 2 exact rfl) | (apply wr_store; (iterate 3 exact rfl); (first | exact rfl | with_reducible assumption); (focus repeat first | with_reducible assumption | exact heap_alloc_same _ _ | exact World.putObj_heap_same (by first | omega | (simp only [World.size_alloc, World.putObj_size, ne_eq]; omega)) | ((first | refine hAl ?_ ?_ | refine hPu ?_ ?_); focus first | omega | (simp only [World.size_alloc, World.putObj_size, ne_eq]; omega))); exact rfl))
    refine wr_name ?_
    intro w8 hw8
    obtain ⟨hc8, hk8⟩ := hW w8 hw8
    clear hw8
    have hc18 : w8.heap[b1]? = some (.cells #[.bool false, .slice none 0 0] 41 (0, 0)) := hk8.heap (hk5.heap (hk3.heap (hk2.heap hc1 (fun h => h)) (fun e => by omega)) (fun h => h)) (fun e => by omega)
    refine wr_loadAll (cs := [.bool (uA L L.length), .slice a5 n5 c5]) rfl rfl rfl hc8 rfl ?_
    refine wr_storeAll (cs := [.bool (uA L L.length), .slice a5 n5 c5]) rfl rfl rfl (by intro u hu; simp at hu; rcases hu with rfl | rfl <;> rfl) hc18 rfl rfl ?_
    (repeat first | apply wr_end | (apply wc_ret; try simp only [thenE, inBlockE, bodyQ]))
    have hlt8 := lt_of_heap hc18
    have hkp : Keeps (· = b1) w8 (w8.putObj b1 (.cells [.bool (uA L L.length), .slice a5 n5 c5].toArray 41 (0, 0))) := (Keeps.refl _ w8).put _ (fun _ => rfl)
    have hfin : Keeps NoB w (w8.putObj b1 (.cells [.bool (uA L L.length), .slice a5 n5 c5].toArray 41 (0, 0))) := Keeps.trans' (Keeps.trans' (hkw3.trans hk5) hk8 (fun i hi e => by have := hk1.size; omega)) hkp (fun i hi e => by omega)
    refine leaveN (vs := [SetV (uA L L.length) (.slice a5 n5 c5)]) (resv_cells (cs := [.bool (uA L L.length), .slice a5 n5 c5]) rfl rfl (World.putObj_heap_same hlt8) rfl resv_nil) ⟨⟨.slice a5 n5 c5, ?_, ?_⟩, hfin⟩
    · unfold unionP uA; rw [List.take_length]; rfl
    · have e : (unionP (L.map (·.1))).2 = srtd (uN L L.length) := by unfold unionP uN; rw [List.take_length]
      rw [e, ← hn5]
      exact ((SlR.of_own ho5).keep hk8 (fun b hb e => by have := own_ge ho5 hb; omega)).keep hkp (fun b hb e => by have := own_ge ho5 hb; omega)
end Go.Proofs.YtajajahofkialaaGreatDoor
