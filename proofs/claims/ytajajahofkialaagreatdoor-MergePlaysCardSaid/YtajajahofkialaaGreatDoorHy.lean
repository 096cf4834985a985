/- noriaref09: Of, Has, Empty, List; texts, same. -/
import Derived.Test.YtajajahofkialaaGreatDoorHx
namespace Go.Proofs.YtajajahofkialaaGreatDoor
open Go Go.V Go.RowKit
set_option linter.unusedVariables false
set_option linter.unusedSimpArgs false

theorem ins_mem (x : TT) : ∀ (l : TX) (z : TT), z ∈ l.takeWhile (fun y => decide (y < x)) ++ [x] ++ l.dropWhile (fun y => decide (y < x)) ↔ z = x ∨ z ∈ l
  | [], z => by simp
  | y :: l, z => by
    by_cases h : y < x
    · have ih := ins_mem x l z
      simp only [List.takeWhile_cons, List.dropWhile_cons, h, decide_true, if_true, List.cons_append, List.mem_cons] at ih ⊢
      rw [ih]
      constructor
      · rintro (h1 | h1 | h1) <;> simp [h1]
      · rintro (h1 | h1 | h1) <;> simp [h1]
    · simp [h]
theorem ins_rises (x : TT) : ∀ (l : TX), Rises l → x ∉ l → Rises (l.takeWhile (fun y => decide (y < x)) ++ [x] ++ l.dropWhile (fun y => decide (y < x)))
  | [], _, _ => by simp [Rises]
  | y :: l, hr, hx => by
    obtain ⟨h1, h2⟩ := List.pairwise_cons.1 hr
    have hxy : x ≠ y := fun e => hx (by simp [e])
    by_cases h : y < x
    · have ih := ins_rises x l h2 (fun h => hx (by simp [h]))
      simp only [List.takeWhile_cons, List.dropWhile_cons, h, decide_true, if_true, List.cons_append]
      refine List.pairwise_cons.2 ⟨fun z hz => ?_, ih⟩
      rcases (ins_mem x l z).1 hz with rfl | hz
      · exact h
      · exact h1 z hz
    · simp only [List.takeWhile_cons, List.dropWhile_cons, h, decide_false, Bool.false_eq_true, if_false, List.nil_append, List.singleton_append]
      have hlt : x < y := ltT_of (not_ltT.1 h) hxy
      refine List.pairwise_cons.2 ⟨fun z hz => ?_, hr⟩
      rcases List.mem_cons.1 hz with rfl | hz
      · exact hlt
      · exact ltT_trans hlt (h1 z hz)
theorem with_mem (l : TX) (x z : TT) : z ∈ withL l x ↔ z = x ∨ z ∈ l := by
  unfold withL
  split
  · rename_i h
    constructor
    · exact .inr
    · rintro (rfl | h1)
      · exact h
      · exact h1
  · exact ins_mem x l z
theorem with_rises {l : TX} (h : Rises l) (x : TT) : Rises (withL l x) := by
  unfold withL
  split
  · exact h
  · rename_i hx; exact ins_rises x l h hx
theorem ofP_snoc {L : TX} {i : Nat} {x : TT} (h : L[i]? = some x) : ofP (L.take (i + 1)) = ((ofP (L.take i)).1 || decide (x = star), if nameOk x then withL (ofP (L.take i)).2 x else (ofP (L.take i)).2) := by
  have ht : L.take (i + 1) = L.take i ++ [x] := by rw [List.take_add_one, h]; rfl
  rw [ht]
  have hf := ofP_fine (L.take i)
  refine fine_ext (ofP_fine _) ⟨?_, ?_⟩ ?_ fun z => ?_
  · dsimp only
    split
    · exact with_rises hf.1 x
    · exact hf.1
  · dsimp only
    intro z hz
    split at hz
    · rename_i hn
      rcases (with_mem _ _ _).1 hz with rfl | hz
      · exact hn
      · exact hf.2 z hz
    · exact hf.2 z hz
  · show decide (star ∈ L.take i ++ [x]) = (decide (star ∈ L.take i) || decide (x = star))
    rw [Bool.eq_iff_iff]
    simp only [Bool.or_eq_true, decide_eq_true_eq, List.mem_append, List.mem_singleton]
    exact ⟨fun h => h.imp id Eq.symm, fun h => h.imp id Eq.symm⟩
  · rw [mem_ofP]
    dsimp only
    split
    · rename_i hn
      rw [with_mem, mem_ofP]
      constructor
      · rintro ⟨h1, h2⟩
        rcases List.mem_append.1 h1 with h1 | h1
        · exact .inr ⟨h1, h2⟩
        · exact .inl (by simpa using h1)
      · rintro (rfl | ⟨h1, h2⟩)
        · exact ⟨by simp, hn⟩
        · exact ⟨by simp [h1], h2⟩
    · rename_i hn
      rw [mem_ofP]
      constructor
      · rintro ⟨h1, h2⟩
        rcases List.mem_append.1 h1 with h1 | h1
        · exact ⟨h1, h2⟩
        · obtain rfl : z = x := by simpa using h1
          exact absurd h2 hn
      · rintro ⟨h1, h2⟩
        exact ⟨by simp [h1], h2⟩
set_option maxRecDepth 100000 in
set_option maxHeartbeats 4000000 in
theorem refOf_ca (l : TX) (sl : Value) (w : World) (hsl : SlR w 1 sl l.length (SL l)) (hlen : l.length ≤ 8796093021990) (hok : ∀ x ∈ l, x.length ≤ 9223372036854775807) :
    Ca Tryz.prog 43 #[sl] w fun v w' => SetR w' (ofP l) v ∧ Keeps NoB w w' := by
  obtain ⟨a, c, rfl, hc, hat⟩ := slr_strs hsl
  refine ca_of_body (args := [.slice a l.length c]) Tryz.func43 rfl (by kernel_rfl) ?_
  (repeat first | apply wr_end | apply wc_seq | apply wc_region | (apply wr_alloc; exact rfl))
  refine wr_name ?_
  intro w1 hw1
  obtain ⟨b1, hb1⟩ : ∃ b1, b1 = w.heap.size := ⟨_, rfl⟩
  have hk1 : Keeps NoB w w1 := by rw [hw1]; exact (Keeps.refl NoB w).alloc _
  have hc1 : w1.heap[b1]? = some (.cells #[.bool false, .slice none 0 0] 29 (0, 0)) := by rw [hw1, hb1]; exact heap_alloc_same _ _
  rw [← hb1]
  clear hw1
  refine wr_build (ps := []) (cs := [.bool false, .slice none 0 0]) rfl rfl rfl rfl ?_
  (repeat first | (apply wr_alloc; exact rfl))
  refine wr_storeAll (cs := [.bool false, .slice none 0 0]) rfl rfl rfl (by intro u hu; simp at hu; rcases hu with rfl | rfl <;> rfl) (heap_alloc_same _ _) rfl rfl ?_
  refine wr_name ?_
  intro w2 hw2
  obtain ⟨b2, hb2⟩ : ∃ b2, b2 = w1.heap.size := ⟨_, rfl⟩
  have hk2 : Keeps NoB w1 w2 := by rw [hw2]; exact ((Keeps.refl NoB w1).alloc _).put _ (fun h => by omega)
  have hc2 : w2.heap[b2]? = some (.cells #[.bool false, .slice none 0 0] 29 (0, 0)) := by rw [hw2, hb2]; exact World.putObj_heap_same (by simp)
  rw [← hb2]
  clear hw2
  have hkw2 := hk1.trans hk2
  have hl1 := lt_of_heap hc1
  have hl2 := lt_of_heap hc2
  have h0 : ofP (l.take 0) = (false, []) := by
    rw [List.take_zero]
    refine fine_ext (ofP_fine _) (nil_fine false) rfl fun z => ?_
    rw [mem_ofP]; simp
  (repeat first | (apply wr_assign; exact rfl; with_reducible (conv => enter [6, 3]; whnf)) | apply wr_end | apply wc_seq | apply wc_region | apply wc_block)
  refine wc_loopL (α := Nat) (fun i => [(0, .slice a l.length c), (2, .pointer (some ⟨b1, 0, none⟩)), (3, .pointer (some ⟨b2, 0, none⟩)), (4, .int .i64 (i : Int))])
    (fun i ds w' => ds = [] ∧ i ≤ l.length ∧ (∃ an cn, w'.heap[b2]? = some (.cells #[.bool (ofP (l.take i)).1, .slice an (ofP (l.take i)).2.length cn] 29 (0, 0)) ∧ SlR w' 1 (.slice an (ofP (l.take i)).2.length cn) (ofP (l.take i)).2.length (SL (ofP (l.take i)).2)) ∧ Keeps (· = b2) w2 w') (fun i => l.length - i) 0
    ⟨rfl, Nat.zero_le _, ⟨none, 0, by rw [h0]; exact hc2, by rw [h0]; exact ⟨rfl, none, 0, rfl, Nat.le_refl _, .inl ⟨rfl, fun _ => rfl⟩⟩⟩, Keeps.refl _ _⟩ ⟨rfl, rfl, rfl, rfl, trivial⟩ ?_
  rintro i ds f0 w3 ⟨rfl, hi, ⟨an, cn, hc3, hr3⟩, hk3⟩
  have hkw3 : Keeps NoB w w3 := Keeps.trans' hkw2 hk3 (fun j hj e => by have := hk1.size; omega)
  have hs3 := hk3.size
  obtain ⟨sA, hsA⟩ : ∃ x, x = (ofP (l.take i)).1 := ⟨_, rfl⟩
  obtain ⟨sl', hsl'⟩ : ∃ x, x = (ofP (l.take i)).2 := ⟨_, rfl⟩
  have hle : sl'.length ≤ i := by
    have := ofP_le (l.take i)
    rw [← hsl', List.length_take] at this
    omega
  rw [← hsl'] at hr3
  rw [← hsA, ← hsl'] at hc3
  by_cases hlt : i < l.length
  rotate_left
  · have he : i = l.length := by omega
    have hc13 : w3.heap[b1]? = some (.cells #[.bool false, .slice none 0 0] 29 (0, 0)) := hk3.heap (hk2.heap hc1 (fun h => h)) (fun e => by omega)
    (repeat first | (apply wr_move; exact rfl; with_reducible (conv => enter [6, 3]; whnf)) | apply wr_end | apply wc_seq | apply wc_region | (apply wr_len_slice; iterate 2 exact rfl) | (apply wr_cmp; (iterate 3 exact rfl); exact cmpF (by dsimp only [cmpN]; first | done | omega)) | (apply wc_false; exact rfl) | (apply wc_exit; try simp only [thenE, inBlockE, bodyQ, ↓reduceIte, Nat.reduceEqDiff]))
    refine wr_loadAll (cs := [.bool sA, .slice an sl'.length cn]) rfl rfl rfl hc3 rfl ?_
    refine wr_storeAll (cs := [.bool sA, .slice an sl'.length cn]) rfl rfl rfl (by intro u hu; simp at hu; rcases hu with rfl | rfl <;> rfl) hc13 rfl rfl ?_
    (repeat first | apply wr_end | (apply wc_ret; try simp only [thenE, inBlockE, bodyQ]))
    have hlt8 := lt_of_heap hc13
    have hkp : Keeps (· = b1) w3 (w3.putObj b1 (.cells [.bool sA, .slice an sl'.length cn].toArray 29 (0, 0))) := (Keeps.refl _ w3).put _ (fun _ => rfl)
    refine leaveN (vs := [SetV sA (.slice an sl'.length cn)]) (resv_cells (cs := [.bool sA, .slice an sl'.length cn]) rfl rfl (World.putObj_heap_same hlt8) rfl resv_nil) ⟨⟨.slice an sl'.length cn, ?_, ?_⟩, Keeps.trans' hkw3 hkp (fun i hi e => by omega)⟩
    · rw [hsA, he, List.take_length]; rfl
    · have e2 : (ofP l).2 = sl' := by rw [hsl', he, List.take_length]
      rw [e2]
      exact slS_put hc13 (by intro x h; cases h) rfl hr3 hkp
  obtain ⟨b, o, rfl, cur, e, fr, hb, hr⟩ := hat (by omega)
  obtain ⟨x, hx⟩ : ∃ x, l[i]? = some x := ⟨l[i], by simp [hlt]⟩
  have hxo := hok x (List.mem_of_getElem? hx)
  have hb3 := hkw3.heap hb (fun h => h)
  have hcx := hr i x hx
  have hsn := ofP_snoc hx
  rw [← hsA, ← hsl'] at hsn
  (repeat first | (apply wr_move; exact rfl; with_reducible (conv => enter [6, 3]; whnf)) | apply wr_end | apply wc_seq | apply wc_region | apply wc_skip | apply wc_block | (apply wr_len_slice; iterate 2 exact rfl) | (apply wr_cmp; (iterate 3 exact rfl); exact cmpT (by dsimp only [cmpP]; first | done | omega)) | (apply wc_true; exact rfl))
  refine wr_indexAddr (i := i) rfl rfl rfl hlt ?_
  refine wr_load (v := S x) rfl rfl rfl hb3 hcx ?_
  refine wr_call (vs := [S x]) rfl (refName_ca x w3 hxo) rfl ?_
  rintro v w4 ⟨rfl, rfl⟩
  by_cases hst : x = star
  · have hnn : ¬ nameOk x := by rw [hst]; exact star_no
    rw [decide_eq_false hnn]
    rw [if_neg hnn, decide_eq_true hst, Bool.or_true] at hsn
    (repeat first | (apply wr_move; exact rfl; with_reducible (conv => enter [6, 3]; whnf)) | (apply wr_assign; exact rfl; with_reducible (conv => enter [6, 3]; whnf)) | apply wr_end | apply wc_seq | apply wc_region)
    refine wr_indexAddr (i := i) rfl rfl rfl hlt ?_
    refine wr_load (v := S x) rfl rfl rfl hb3 hcx ?_
    refine wr_streqc (a := x) (b := star) (c := true) rfl rfl rfl (decide_eq_true hst) ?_
    (repeat first | (apply wr_move; exact rfl; with_reducible (conv => enter [6, 3]; whnf)) | (apply wr_assign; exact rfl; with_reducible (conv => enter [6, 3]; whnf)) | apply wr_end | apply wc_seq | apply wc_region | apply wc_skip | (apply wr_fieldAddr; iterate 2 exact rfl) | (apply wr_add; (iterate 3 exact rfl); exact w_fit (by dsimp only [kIn]; first | done | omega)) | (apply wr_store; (iterate 3 exact rfl); (first | exact rfl | with_reducible assumption); (focus repeat first | with_reducible assumption | exact heap_alloc_same _ _ | exact World.putObj_heap_same (by first | omega | (simp only [World.size_alloc, World.putObj_size, ne_eq]; omega)) | ((first | refine hAl ?_ ?_ | refine hPu ?_ ?_); focus first | omega | (simp only [World.size_alloc, World.putObj_size, ne_eq]; omega))); exact rfl) | (apply wc_true; exact rfl) | (apply wc_false; exact rfl))
    have hP : ∀ w5, w5 = w4.putObj b2 (.cells ((#[.bool sA, .slice an sl'.length cn] : Array Value).setIfInBounds (0 + 0) (.bool true)) 29 (0, 0)) → w5.heap[b2]? = some (.cells #[.bool (ofP (l.take (i + 1))).1, .slice an (ofP (l.take (i + 1))).2.length cn] 29 (0, 0)) ∧ SlR w5 1 (.slice an (ofP (l.take (i + 1))).2.length cn) (ofP (l.take (i + 1))).2.length (SL (ofP (l.take (i + 1))).2) ∧ Keeps (· = b2) w4 w5 := by
      intro w5 hw5
      have hk5 : Keeps (· = b2) w4 w5 := by rw [hw5]; exact (Keeps.refl _ _).put _ (fun _ => rfl)
      rw [hsn]
      refine ⟨by rw [hw5, World.putObj_heap_same (lt_of_heap hc3)]; rfl, slS_put hc3 (by intro x h; cases h) rfl hr3 hk5, hk5⟩
    exact ⟨i + 1, by omega, ⟨by trivial, hlt, ⟨an, cn, (hP _ rfl).1, (hP _ rfl).2.1⟩, hk3.trans (hP _ rfl).2.2⟩, rfl, rfl, rfl, by simp, trivial⟩
  rw [decide_eq_false hst, Bool.or_false] at hsn
  by_cases hn : nameOk x
  rotate_left
  · rw [decide_eq_false hn]
    rw [if_neg hn] at hsn
    (repeat first | (apply wr_move; exact rfl; with_reducible (conv => enter [6, 3]; whnf)) | (apply wr_assign; exact rfl; with_reducible (conv => enter [6, 3]; whnf)) | apply wr_end | apply wc_seq | apply wc_region)
    refine wr_indexAddr (i := i) rfl rfl rfl hlt ?_
    refine wr_load (v := S x) rfl rfl rfl hb3 hcx ?_
    refine wr_streqc (a := x) (b := star) (c := false) rfl rfl rfl (decide_eq_false hst) ?_
    (repeat first | (apply wr_move; exact rfl; with_reducible (conv => enter [6, 3]; whnf)) | (apply wr_assign; exact rfl; with_reducible (conv => enter [6, 3]; whnf)) | apply wr_end | apply wc_seq | apply wc_region | apply wc_skip | (apply wr_add; (iterate 3 exact rfl); exact w_fit (by dsimp only [kIn]; first | done | omega)) | (apply wc_false; exact rfl))
    exact ⟨i + 1, by omega, ⟨by trivial, hlt, ⟨an, cn, by rw [hsn]; exact hc3, by rw [hsn]; exact hr3⟩, hk3⟩, rfl, rfl, rfl, by simp, trivial⟩
  rw [decide_eq_true hn]
  rw [if_pos hn] at hsn
  (repeat first | (apply wr_move; exact rfl; with_reducible (conv => enter [6, 3]; whnf)) | (apply wr_assign; exact rfl; with_reducible (conv => enter [6, 3]; whnf)) | apply wr_end | apply wc_seq | apply wc_region)
  refine wr_indexAddr (i := i) rfl rfl rfl hlt ?_
  refine wr_load (v := S x) rfl rfl rfl hb3 hcx ?_
  refine wr_streqc (a := x) (b := star) (c := false) rfl rfl rfl (decide_eq_false hst) ?_
  (repeat first | (apply wr_move; exact rfl; with_reducible (conv => enter [6, 3]; whnf)) | apply wr_end | apply wc_seq | apply wc_region | apply wc_skip | (apply wc_true; exact rfl) | (apply wc_false; exact rfl))
  have hk0 : ∀ {w'}, Keeps NoB w4.drew w' → Keeps NoB w4 w' := fun hk => (Keeps.refl NoB w4).drew.trans hk
  refine wc_drawP (l := _) 8 _ (by kernel_rfl) (by kernel_rfl) rfl (by kernel_rfl) (by kernel_rfl) (by decide) ?_
  apply chP_pure
  focus
    intro xx w' hk hF
    refine wr_fieldAddr rfl rfl ?_
    apply wr_nil
    exact ⟨rfl, Keeps.refl _ _⟩
  focus (intro xx yy h; rfl)
  focus kernel_rfl
  apply chP_pure
  focus
    intro xx w' hk hF
    refine wr_load (v := .slice an sl'.length cn) rfl rfl rfl ((hk0 hk).heap hc3 (fun h => h)) rfl ?_
    apply wr_nil
    exact ⟨rfl, Keeps.refl _ _⟩
  focus (intro xx yy h; rfl)
  focus kernel_rfl
  apply chP_pure
  focus
    intro xx w' hk hF
    apply wr_move; exact rfl; with_reducible (conv => enter [6, 3]; whnf)
    apply wr_nil
    exact ⟨rfl, Keeps.refl _ _⟩
  focus (intro xx yy h; rfl)
  focus kernel_rfl
  apply chP_pure
  focus
    intro xx w' hk hF
    apply wr_move; exact rfl; with_reducible (conv => enter [6, 3]; whnf)
    apply wr_nil
    exact ⟨rfl, Keeps.refl _ _⟩
  focus (intro xx yy h; rfl)
  focus kernel_rfl
  apply chP_pure
  focus
    intro xx w' hk hF
    refine wr_indexAddr (i := i) rfl rfl rfl hlt ?_
    apply wr_nil
    exact ⟨rfl, Keeps.refl _ _⟩
  focus (intro xx yy h; rfl)
  focus kernel_rfl
  apply chP_pure
  focus
    intro xx w' hk hF
    refine wr_load (v := S x) rfl rfl rfl ((hk0 hk).heap hb3 (fun h => h)) hcx ?_
    apply wr_nil
    exact ⟨rfl, Keeps.refl _ _⟩
  focus (intro xx yy h; rfl)
  focus kernel_rfl
  refine chP_fact (fun y => y) (fun y w' => SlR w' 1 y (withL sl' x).length (SL (withL sl' x))) (fun y w' w'' h k => h.keep k (fun _ _ h => h)) ?_ ?_
  focus
    intro xx w' hk hF
    refine wr_call (vs := [.slice an sl'.length cn, S x]) rfl (with_ca sl' x _ w' (hr3.keep (hk0 hk) (fun _ _ h => h)) (by omega)) rfl ?_
    rintro v w'' ⟨hR, hkc⟩
    apply wr_nil
    exact ⟨v, rfl, hR, hkc⟩
  apply chP_pure
  focus
    intro xx w' hk hF
    refine wr_fieldAddr rfl rfl ?_
    apply wr_nil
    exact ⟨rfl, Keeps.refl _ _⟩
  focus (intro xx yy h; rfl)
  focus kernel_rfl
  refine chP_nil ?_
  intro xx w5 hk5 hF
  have hr5 : SlR w5 1 (xx 6) (withL sl' x).length (SL (withL sl' x)) := hF 6 (by decide)
  obtain ⟨a6, c6, e6, _, _⟩ := slr_strs hr5
  rw [e6] at hr5
  have hc5 := (hk0 hk5).heap hc3 (fun h => h)
  refine wr_store (v := .slice a6 (withL sl' x).length c6) rfl rfl (by exact e6) rfl hc5 rfl ?_
  refine wr_name ?_
  intro w6 hw6
  have hk6 : Keeps (· = b2) w5 w6 := by rw [hw6]; exact (Keeps.refl _ _).put _ (fun _ => rfl)
  have hc6 : w6.heap[b2]? = some (.cells #[.bool (ofP (l.take (i + 1))).1, .slice a6 (ofP (l.take (i + 1))).2.length c6] 29 (0, 0)) := by
    rw [hsn, hw6, World.putObj_heap_same (lt_of_heap hc5)]; rfl
  clear hw6
  have hr6 := slS_put hc5 (by intro x h; cases h) rfl hr5 hk6
  refine wr_keep [(0, .slice (some ⟨b, o, none⟩) l.length c), (2, .pointer (some ⟨b1, 0, none⟩)), (3, .pointer (some ⟨b2, 0, none⟩)), (4, .int .i64 (i : Int))] ⟨rfl, rfl, rfl, rfl, trivial⟩ ?_
  intro f1
  (repeat first | (apply wr_move; exact rfl; with_reducible (conv => enter [6, 3]; whnf)) | (apply wr_assign; exact rfl; with_reducible (conv => enter [6, 3]; whnf)) | apply wr_end | apply wc_region | (apply wr_add; (iterate 3 exact rfl); exact w_fit (by dsimp only [kIn]; first | done | omega)) | (apply wr_nil; try simp only [thenE, inBlockE, bodyQ]))
  exact ⟨i + 1, by omega, ⟨by trivial, hlt, ⟨a6, c6, hc6, by rw [hsn]; exact hr6⟩, hk3.trans ((hk0 hk5).upD.trans hk6)⟩, rfl, rfl, rfl, by simp, trivial⟩
end Go.Proofs.YtajajahofkialaaGreatDoor
