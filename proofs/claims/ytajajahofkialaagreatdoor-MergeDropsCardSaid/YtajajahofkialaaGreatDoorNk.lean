/- names.Union. -/
import Derived.Test.YtajajahofkialaaGreatDoorNj
namespace Go.Proofs.YtajajahofkialaaGreatDoor
open Go Go.V Go.RowKit
set_option linter.unusedVariables false
set_option linter.unusedSimpArgs false

/-- A set among the arguments: what it is, where its names lie. -/
abbrev SE := PS × Value
def GSt (x : SE) : List Value := [.bool x.1.1, x.2]
theorem GSt_len (x : SE) : (GSt x).length = 2 := rfl
def SetsAt (w : World) (L : List SE) (sl : Value) : Prop := SlR w 2 sl L.length (L.flatMap GSt) ∧ ∀ x ∈ L, SlR w 1 x.2 x.1.2.length (SL x.1.2)
theorem SetsAt.keep {w w' : World} {L : List SE} {sl : Value} (h : SetsAt w L sl) (hk : Keeps NoB w w') : SetsAt w' L sl := ⟨h.1.keep hk (fun _ _ h => h), fun x hx => (h.2 x hx).keep hk (fun _ _ h => h)⟩
def uA (L : List SE) (k : Nat) : Bool := ((L.take k).map (·.1)).any (·.1)
def uN (L : List SE) (k : Nat) : TX := ((L.take k).map (·.1)).flatMap (·.2)
theorem uA_step {L : List SE} {k : Nat} {x : SE} (h : L[k]? = some x) : uA L (k + 1) = (uA L k || x.1.1) := by
  unfold uA
  rw [List.take_add_one, h, List.map_append, List.any_append]
  simp
theorem uN_step {L : List SE} {k : Nat} {x : SE} (h : L[k]? = some x) : uN L (k + 1) = uN L k ++ x.1.2 := by
  unfold uN
  rw [List.take_add_one, h, List.map_append, List.flatMap_append]
  simp
theorem uN_le (L : List SE) (k : Nat) : (uN L k).length ≤ (uN L L.length).length := by
  unfold uN
  rw [List.take_length]
  conv => rhs; rw [← List.take_append_drop k L]
  rw [List.map_append, List.flatMap_append, List.length_append]
  exact Nat.le_add_right _ _
theorem SL_append (a b : TX) : SL a ++ SL b = SL (a ++ b) := by simp [SL]
theorem wr_name {P : Program} {ops : Array Oper} {Q : Post} {ds : List Deferred} {l : List Oper} {f : Env} {w : World} (kk : ∀ w', w' = w → Wr P ops Q ds l f w') : Wr P ops Q ds l f w := kk w rfl
set_option maxRecDepth 100000 in
set_option maxHeartbeats 2000000 in
theorem union_ca (L : List SE) (sl : Value) (w : World) (h : SetsAt w L sl) (hL : L.length ≤ 8796093022000) (hlen : (uN L L.length).length ≤ 8796093022000) :
    Ca Tryz.prog 32 #[sl] w fun v w' => SetR w' (unionP (L.map (·.1))) v ∧ Keeps NoB w w' := by
  obtain ⟨hsl, hel⟩ := h
  obtain ⟨a, c, rfl, hc, hat⟩ := hsl.shape
  refine ca_of_body (args := [.slice a L.length c]) Tryz.func32 rfl (by kernel_rfl) ?_
  (repeat first | (apply wr_move; exact rfl; with_reducible (conv => enter [6, 3]; whnf)) | apply wr_end | apply wc_seq | apply wc_region | apply wc_block | (apply wr_len_slice; iterate 2 exact rfl) | (apply wr_alloc; exact rfl))
  obtain ⟨w1, hw1⟩ : ∃ w1, w1 = w.alloc (.cells (SetV false (.slice none 0 0)).cells 41) := ⟨_, rfl⟩
  obtain ⟨b1, hb1⟩ : ∃ b1, b1 = w.heap.size := ⟨_, rfl⟩
  have hk1 : Keeps NoB w w1 := by rw [hw1]; exact (Keeps.refl NoB w).alloc _
  have hc1 : w1.heap[b1]? = some (.cells #[.bool false, .slice none 0 0] 41 (0, 0)) := by rw [hw1, hb1]; exact heap_alloc_same _ _
  rw [← hw1, ← hb1]
  clear hw1
  obtain ⟨w2, hw2⟩ : ∃ w2, w2 = w1.alloc (.cells (SetV false (.slice none 0 0)).cells 41) := ⟨_, rfl⟩
  obtain ⟨b2, hb2⟩ : ∃ b2, b2 = w1.heap.size := ⟨_, rfl⟩
  have hk2 : Keeps NoB w1 w2 := by rw [hw2]; exact (Keeps.refl NoB w1).alloc _
  have hc2 : w2.heap[b2]? = some (.cells #[.bool false, .slice none 0 0] 41 (0, 0)) := by rw [hw2, hb2]; exact heap_alloc_same _ _
  rw [← hw2, ← hb2]
  clear hw2
  have hkw2 := hk1.trans hk2
  have hl1 := lt_of_heap hc1
  have hl2 := lt_of_heap hc2
  have hb12 : b1 < b2 := by omega
  skip
  refine wc_loopL (α := Nat) (fun k => [(2, .pointer (some ⟨b1, 0, none⟩)), (3, .pointer (some ⟨b2, 0, none⟩)), (6, .slice a L.length c), (7, .int .i64 (L.length : Int)), (8, .int .i64 (k : Int))])
    (fun k ds w' => ds = [] ∧ k ≤ L.length ∧ (∃ nv, w'.heap[b2]? = some (.cells #[.bool (uA L k), nv] 41 (0, 0)) ∧ w'.ownsRow w2.heap.size 9 1 nv (uN L k).length (SL (uN L k))) ∧ Keeps (· = b2) w2 w') (fun k => L.length - k) 0
    ⟨rfl, Nat.zero_le _, ⟨_, hc2, own_nil _ _ _ _⟩, Keeps.refl _ _⟩ ⟨rfl, rfl, rfl, rfl, rfl, trivial⟩ ?_
  rintro k ds f0 w3 ⟨rfl, hkL, ⟨nv, hc3, ho3⟩, hk3⟩
  have hkw3 : Keeps NoB w w3 := Keeps.trans' hkw2 hk3 (fun i hi e => by have := hk1.size; omega)
  have hs3 := hk3.size
  by_cases hlt : k < L.length
  · obtain ⟨x, hx⟩ : ∃ x, L[k]? = some x := ⟨L[k], by simp [hlt]⟩
    obtain ⟨b, o, rfl, cur, e, fr, hb, hr⟩ := hat (by omega)
    have hb3 := hkw3.heap hb (fun h => h)
    have hxs0 := hel x (List.mem_of_getElem? hx)
    have hxs := hxs0.keep hkw3 (fun _ _ h => h)
    have hsA := uA_step hx
    have hsN := uN_step hx
    have hN1 := uN_le L (k + 1)
    rw [hsN, List.length_append] at hN1
    obtain ⟨⟨xa, xl⟩, xv⟩ := x
    dsimp only at hxs0 hxs hsA hsN hN1
    obtain ⟨ax, cx, rfl, _, _⟩ := slr_strs hxs
    (repeat first | apply wr_end | apply wc_seq | apply wc_region | apply wc_skip | apply wc_block | (apply wr_cmp; (iterate 3 exact rfl); exact cmpT (by dsimp only [cmpP]; first | done | omega)) | (apply wc_true; exact rfl))
    refine wr_indexAddr (i := k) rfl rfl rfl hlt ?_
    refine wr_loadElem (G := GSt) (n := L.length) (l := L) rfl rfl GSt_len rfl hb3 hr hlt hx rfl ?_
    (repeat first | (apply wr_alloc; exact rfl))
    refine wr_storeAll (cs := [.bool xa, .slice ax xl.length cx]) rfl rfl rfl (by intro u hu; simp at hu; rcases hu with rfl | rfl <;> rfl) (heap_alloc_same _ _) rfl rfl ?_
    obtain ⟨w4, hw4⟩ : ∃ w4, w4 = (w3.alloc (.cells (SetV false (.slice none 0 0)).cells 41)).putObj w3.heap.size (.cells [.bool xa, .slice ax xl.length cx].toArray 41 (0, 0)) := ⟨_, rfl⟩
    obtain ⟨b4, hb4⟩ : ∃ b4, b4 = w3.heap.size := ⟨_, rfl⟩
    have hk4 : Keeps NoB w3 w4 := by rw [hw4]; exact ((Keeps.refl NoB w3).alloc _).put _ (fun h => by omega)
    have hc4 : w4.heap[b4]? = some (.cells #[.bool xa, .slice ax xl.length cx] 41 (0, 0)) := by rw [hw4, hb4]; exact World.putObj_heap_same (by simp)
    rw [← hw4, ← hb4]
    clear hw4
    have hc24 := hk4.heap hc3 (fun h => h)
    have ho4 := own_keep ho3 hk4 (fun _ _ h => h)
    have hxs4 := hxs.keep hk4 (fun _ _ h => h)
    have hs4 := hk4.size
    have hl3 := lt_of_heap hc3
    have hN0 : (uN L k).length + xl.length ≤ 8796093022000 := by omega
    obtain ⟨an, cn, rfl, _, _⟩ := slr_strs (SlR.of_own ho4)
    have hN : ∀ (B : Bool) (w5 : World), (uA L k || xa) = B → w5 = w4.putObj b2 (.cells ((#[.bool (uA L k), .slice an (uN L k).length cn] : Array Value).setIfInBounds (0 + 0) (.bool B)) 41 (0, 0)) → w5.heap[b2]? = some (.cells #[.bool B, .slice an (uN L k).length cn] 41 (0, 0)) ∧ Keeps (· = b2) w4 w5 := by
      intro B w5 _ e
      refine ⟨?_, by rw [e]; exact (Keeps.refl _ _).put _ (fun _ => rfl)⟩
      rw [e, World.putObj_heap_same (lt_of_heap hc24)]; rfl
    cases hA : uA L k with
    | true =>
      rw [hA] at hc24 hN hsA
      (repeat first | (apply wr_move; exact rfl; with_reducible (conv => enter [6, 3]; whnf)) | apply wr_end | apply wc_seq | apply wc_region | (apply wr_fieldAddr; iterate 2 exact rfl) | (apply wr_load; (iterate 3 exact rfl); (focus repeat first | with_reducible assumption | exact heap_alloc_same _ _ | exact World.putObj_heap_same (by first | omega | (simp only [World.size_alloc, World.putObj_size, ne_eq]; omega)) | ((first | refine hAl ?_ ?_ | refine hPu ?_ ?_); focus first | omega | (simp only [World.size_alloc, World.putObj_size, ne_eq]; omega))); exact rfl; conv => enter [6, 3]; whnf) | (apply wr_pick (t := true); (iterate 2 exact rfl); with_reducible (conv => enter [6, 3]; whnf)) | (apply wr_store; (iterate 3 exact rfl); (first | exact rfl | with_reducible assumption); (focus repeat first | with_reducible assumption | exact heap_alloc_same _ _ | exact World.putObj_heap_same (by first | omega | (simp only [World.size_alloc, World.putObj_size, ne_eq]; omega)) | ((first | refine hAl ?_ ?_ | refine hPu ?_ ?_); focus first | omega | (simp only [World.size_alloc, World.putObj_size, ne_eq]; omega))); exact rfl) | (apply wr_skip; exact rfl))
      refine wr_name ?_
      intro w5 hw5
      obtain ⟨hc5, hk5⟩ := hN true w5 (by simp) hw5
      clear hw5
      have ho5 := own_keep ho4 hk5 (fun b hb e => by have := own_ge ho4 hb; omega)
      have hs5 := hk5.size
      refine wr_appendR (v := .slice an (uN L k).length cn) (base := w2.heap.size) (n := (uN L k).length) (m := xl.length) (xs := SL (uN L k)) (news := SL xl) rfl rfl ho5 rfl (hxs0.keep (Keeps.trans' (hkw3.trans hk4) hk5 (fun i hi e => by have := hk1.size; omega)) (fun _ _ h => h)) (by intro u hu; simp [SL] at hu; obtain ⟨x, _, rfl⟩ := hu; rfl) rfl (by decide) (by omega) (by omega) (by omega) ?_
      intro v6 w6 ho6 hk6 _
      rw [SL_append, ← List.length_append, ← hsN] at ho6
      have hc6 := hk6.heap hc5 (fun e => by have := own_ge ho5 e; omega)
      obtain ⟨a6, c6, rfl, _, _⟩ := slr_strs (SlR.of_own ho6)
      have hP : ∀ w7, w7 = w6.putObj b2 (.cells ((#[.bool true, .slice an (uN L k).length cn] : Array Value).setIfInBounds (0 + 1) (.slice a6 (uN L (k + 1)).length c6)) 41 (0, 0)) → (w7.heap[b2]? = some (.cells #[.bool (uA L (k + 1)), .slice a6 (uN L (k + 1)).length c6] 41 (0, 0)) ∧ w7.ownsRow w2.heap.size 9 1 (.slice a6 (uN L (k + 1)).length c6) (uN L (k + 1)).length (SL (uN L (k + 1)))) ∧ Keeps (· = b2) w2 w7 := by
        intro w7 hw7
        have hk7 : Keeps (· = b2) w6 w7 := by rw [hw7]; exact (Keeps.refl _ _).put _ (fun _ => rfl)
        have h25 : Keeps (· = b2) w2 w5 := hk3.trans (hk4.upD.trans hk5)
        refine ⟨⟨?_, own_keep ho6 hk7 (fun b hb e => by have := own_ge ho6 hb; omega)⟩, (Keeps.trans' h25 hk6 (fun i hi e => by have := own_ge ho5 e; omega)).trans hk7⟩
        rw [hw7, World.putObj_heap_same (lt_of_heap hc6), hsA]; rfl
      (repeat first | (apply wr_move; exact rfl; with_reducible (conv => enter [6, 3]; whnf)) | apply wr_end | apply wc_region | (apply wr_fieldAddr; iterate 2 exact rfl) | (apply wr_add; (iterate 3 exact rfl); exact w_fit (by dsimp only [kIn]; first | done | omega)) | (apply wr_store; (iterate 3 exact rfl); (first | exact rfl | with_reducible assumption); (focus repeat first | with_reducible assumption | exact heap_alloc_same _ _ | exact World.putObj_heap_same (by first | omega | (simp only [World.size_alloc, World.putObj_size, ne_eq]; omega)) | ((first | refine hAl ?_ ?_ | refine hPu ?_ ?_); focus first | omega | (simp only [World.size_alloc, World.putObj_size, ne_eq]; omega))); exact rfl) | (apply wr_nil; try simp only [thenE, inBlockE, bodyQ]))
      exact ⟨k + 1, by omega, ⟨by trivial, hlt, ⟨_, (hP _ rfl).1⟩, (hP _ rfl).2⟩, rfl, rfl, rfl, rfl, by simp, trivial⟩
    | false =>
      rw [hA] at hc24 hN hsA
      (repeat first | (apply wr_move; exact rfl; with_reducible (conv => enter [6, 3]; whnf)) | apply wr_end | apply wc_seq | apply wc_region | (apply wr_fieldAddr; iterate 2 exact rfl) | (apply wr_load; (iterate 3 exact rfl); (focus repeat first | with_reducible assumption | exact heap_alloc_same _ _ | exact World.putObj_heap_same (by first | omega | (simp only [World.size_alloc, World.putObj_size, ne_eq]; omega)) | ((first | refine hAl ?_ ?_ | refine hPu ?_ ?_); focus first | omega | (simp only [World.size_alloc, World.putObj_size, ne_eq]; omega))); exact rfl; conv => enter [6, 3]; whnf) | (apply wr_pick (t := false); (iterate 2 exact rfl); with_reducible (conv => enter [6, 3]; whnf)) | (apply wr_store; (iterate 3 exact rfl); (first | exact rfl | with_reducible assumption); (focus repeat first | with_reducible assumption | exact heap_alloc_same _ _ | exact World.putObj_heap_same (by first | omega | (simp only [World.size_alloc, World.putObj_size, ne_eq]; omega)) | ((first | refine hAl ?_ ?_ | refine hPu ?_ ?_); focus first | omega | (simp only [World.size_alloc, World.putObj_size, ne_eq]; omega))); exact rfl))
      refine wr_name ?_
      intro w5 hw5
      obtain ⟨hc5, hk5⟩ := hN xa w5 (by simp) hw5
      clear hw5
      have ho5 := own_keep ho4 hk5 (fun b hb e => by have := own_ge ho4 hb; omega)
      have hs5 := hk5.size
      refine wr_appendR (v := .slice an (uN L k).length cn) (base := w2.heap.size) (n := (uN L k).length) (m := xl.length) (xs := SL (uN L k)) (news := SL xl) rfl rfl ho5 rfl (hxs0.keep (Keeps.trans' (hkw3.trans hk4) hk5 (fun i hi e => by have := hk1.size; omega)) (fun _ _ h => h)) (by intro u hu; simp [SL] at hu; obtain ⟨x, _, rfl⟩ := hu; rfl) rfl (by decide) (by omega) (by omega) (by omega) ?_
      intro v6 w6 ho6 hk6 _
      rw [SL_append, ← List.length_append, ← hsN] at ho6
      have hc6 := hk6.heap hc5 (fun e => by have := own_ge ho5 e; omega)
      obtain ⟨a6, c6, rfl, _, _⟩ := slr_strs (SlR.of_own ho6)
      have hP : ∀ w7, w7 = w6.putObj b2 (.cells ((#[.bool xa, .slice an (uN L k).length cn] : Array Value).setIfInBounds (0 + 1) (.slice a6 (uN L (k + 1)).length c6)) 41 (0, 0)) → (w7.heap[b2]? = some (.cells #[.bool (uA L (k + 1)), .slice a6 (uN L (k + 1)).length c6] 41 (0, 0)) ∧ w7.ownsRow w2.heap.size 9 1 (.slice a6 (uN L (k + 1)).length c6) (uN L (k + 1)).length (SL (uN L (k + 1)))) ∧ Keeps (· = b2) w2 w7 := by
        intro w7 hw7
        have hk7 : Keeps (· = b2) w6 w7 := by rw [hw7]; exact (Keeps.refl _ _).put _ (fun _ => rfl)
        have h25 : Keeps (· = b2) w2 w5 := hk3.trans (hk4.upD.trans hk5)
        refine ⟨⟨?_, own_keep ho6 hk7 (fun b hb e => by have := own_ge ho6 hb; omega)⟩, (Keeps.trans' h25 hk6 (fun i hi e => by have := own_ge ho5 e; omega)).trans hk7⟩
        rw [hw7, World.putObj_heap_same (lt_of_heap hc6), hsA]; rfl
      (repeat first | (apply wr_move; exact rfl; with_reducible (conv => enter [6, 3]; whnf)) | apply wr_end | apply wc_region | (apply wr_fieldAddr; iterate 2 exact rfl) | (apply wr_add; (iterate 3 exact rfl); exact w_fit (by dsimp only [kIn]; first | done | omega)) | (apply wr_store; (iterate 3 exact rfl); (first | exact rfl | with_reducible assumption); (focus repeat first | with_reducible assumption | exact heap_alloc_same _ _ | exact World.putObj_heap_same (by first | omega | (simp only [World.size_alloc, World.putObj_size, ne_eq]; omega)) | ((first | refine hAl ?_ ?_ | refine hPu ?_ ?_); focus first | omega | (simp only [World.size_alloc, World.putObj_size, ne_eq]; omega))); exact rfl) | (apply wr_nil; try simp only [thenE, inBlockE, bodyQ]))
      exact ⟨k + 1, by omega, ⟨by trivial, hlt, ⟨_, (hP _ rfl).1⟩, (hP _ rfl).2⟩, rfl, rfl, rfl, rfl, by simp, trivial⟩
  · have he : k = L.length := by omega
    subst he
    (repeat first | apply wr_end | apply wc_seq | apply wc_region | (apply wr_fieldAddr; iterate 2 exact rfl) | (apply wr_load; (iterate 3 exact rfl); (focus repeat first | with_reducible assumption | exact heap_alloc_same _ _ | exact World.putObj_heap_same (by first | omega | (simp only [World.size_alloc, World.putObj_size, ne_eq]; omega)) | ((first | refine hAl ?_ ?_ | refine hPu ?_ ?_); focus first | omega | (simp only [World.size_alloc, World.putObj_size, ne_eq]; omega))); exact rfl; conv => enter [6, 3]; whnf) | (apply wr_cmp; (iterate 3 exact rfl); exact cmpF (by dsimp only [cmpN]; first | done | omega)) | (apply wc_false; exact rfl) | (apply wc_exit; try simp only [thenE, inBlockE, bodyQ, ↓reduceIte, Nat.reduceEqDiff]))
    refine wr_call (vs := [nv]) rfl (sorted_ca _ nv w3 (SlR.of_own ho3) hlen) rfl ?_
    rintro v5 w5 ⟨ho5, hk5⟩
    have hc5 := hk5.heap hc3 (fun h => h)
    obtain ⟨a5, c5, rfl, _, _⟩ := slr_strs (SlR.of_own ho5)
    obtain ⟨n5, hn5⟩ : ∃ n5, n5 = (srtd (uN L L.length)).length := ⟨_, rfl⟩
    rw [← hn5] at ho5 ⊢
    have hl3 := lt_of_heap hc3
    have hs5 := hk5.size
    have hW : ∀ w8, w8 = (w5.putObj b2 (.cells ((#[.bool (uA L L.length), nv] : Array Value).setIfInBounds (0 + 1) (.slice a5 n5 c5)) 41 (0, 0))) → w8.heap[b2]? = some (.cells #[.bool (uA L L.length), .slice a5 n5 c5] 41 (0, 0)) ∧ Keeps (· = b2) w5 w8 := by
      intro w8 e
      refine ⟨?_, by rw [e]; exact (Keeps.refl _ _).put _ (fun _ => rfl)⟩
      rw [e, World.putObj_heap_same (by omega)]; rfl
    (repeat first | apply wr_end | apply wc_seq | apply wc_region | (apply wr_fieldAddr; iterate 2 exact rfl) | (apply wr_store; (iterate 3 exact rfl); (first | exact rfl | with_reducible assumption); (focus repeat first | with_reducible assumption | exact heap_alloc_same _ _ | exact World.putObj_heap_same (by first | omega | (simp only [World.size_alloc, World.putObj_size, ne_eq]; omega)) | ((first | refine hAl ?_ ?_ | refine hPu ?_ ?_); focus first | omega | (simp only [World.size_alloc, World.putObj_size, ne_eq]; omega))); exact rfl))
    refine wr_name ?_
    intro w8 hw8
    obtain ⟨hc8, hk8⟩ := hW w8 hw8
    clear hw8
    have hc18 : w8.heap[b1]? = some (.cells #[.bool false, .slice none 0 0] 41 (0, 0)) := hk8.heap (hk5.heap (hk3.heap (hk2.heap hc1 (fun h => h)) (fun e => by omega)) (fun h => h)) (fun e => by omega)
    refine wr_loadAll (cs := [.bool (uA L L.length), .slice a5 n5 c5]) rfl rfl rfl hc8 rfl ?_
    refine wr_storeAll (cs := [.bool (uA L L.length), .slice a5 n5 c5]) rfl rfl rfl (by intro u hu; simp at hu; rcases hu with rfl | rfl <;> rfl) hc18 rfl rfl ?_
    (repeat first | apply wr_end | (apply wc_ret; try simp only [thenE, inBlockE, bodyQ]))
    have hlt8 := lt_of_heap hc18
    have hkp : Keeps (· = b1) w8 (w8.putObj b1 (.cells [.bool (uA L L.length), .slice a5 n5 c5].toArray 41 (0, 0))) := (Keeps.refl _ w8).put _ (fun _ => rfl)
    have hfin : Keeps NoB w (w8.putObj b1 (.cells [.bool (uA L L.length), .slice a5 n5 c5].toArray 41 (0, 0))) := Keeps.trans' (Keeps.trans' (hkw3.trans hk5) hk8 (fun i hi e => by have := hk1.size; omega)) hkp (fun i hi e => by omega)
    refine leaveN (vs := [SetV (uA L L.length) (.slice a5 n5 c5)]) (resv_cells (cs := [.bool (uA L L.length), .slice a5 n5 c5]) rfl rfl (World.putObj_heap_same hlt8) rfl resv_nil) ⟨⟨.slice a5 n5 c5, ?_, ?_⟩, hfin⟩
    · unfold unionP uA; rw [List.take_length]; rfl
    · have e : (unionP (L.map (·.1))).2 = srtd (uN L L.length) := by unfold unionP uN; rw [List.take_length]
      rw [e, ← hn5]
      exact ((SlR.of_own ho5).keep hk8 (fun b hb e => by have := own_ge ho5 hb; omega)).keep hkp (fun b hb e => by have := own_ge ho5 hb; omega)
end Go.Proofs.YtajajahofkialaaGreatDoor
