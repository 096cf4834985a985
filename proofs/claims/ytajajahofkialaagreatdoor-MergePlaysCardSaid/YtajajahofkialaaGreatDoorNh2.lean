/- slices.Contains of texts; what is no name. -/
import Derived.Test.YtajajahofkialaaGreatDoorNa2
import Derived.Test.YtajajahofkialaaGreatDoorNb2
namespace Go.Proofs.YtajajahofkialaaGreatDoor
open Go Go.V Go.RowKit
set_option linter.unusedVariables false
set_option linter.unusedSimpArgs false

theorem idxS_mem (l : TX) (x : List UInt8) : decide (0 ≤ idxS l x) = decide (x ∈ l) := by
  unfold idxS
  cases hf : l.findIdx? (· == x) with
  | none =>
    rw [List.findIdx?_eq_none_iff] at hf
    rw [decide_eq_false (show ¬ ((0 : Int) ≤ -1) by omega), decide_eq_false]
    intro h
    have := hf x h
    simp at this
  | some i =>
    rw [List.findIdx?_eq_some_iff_getElem] at hf
    obtain ⟨hi, he, _⟩ := hf
    rw [decide_eq_true (show (0 : Int) ≤ (i : Int) by omega), decide_eq_true]
    simp at he
    rw [← he]
    exact List.getElem_mem hi
set_option maxRecDepth 100000 in
set_option maxHeartbeats 1000000 in
theorem contains_ca (l : TX) (x : List UInt8) (sl : Value) (w : World) (hsl : SlR w 1 sl l.length (SL l)) (hlen : l.length ≤ 8796093022000) :
    Ca Tryz.prog 55 #[sl, S x] w fun v w' => v = .bool (decide (x ∈ l)) ∧ Keeps NoB w w' := by
  refine ca_of_body (args := [sl, S x]) Tryz.func55 rfl (by kernel_rfl) ?_
  (repeat first | (apply wr_move; exact rfl; with_reducible (conv => enter [6, 3]; whnf)) | (apply wr_assign; exact rfl; with_reducible (conv => enter [6, 3]; whnf)) | apply wr_end | apply wc_seq | apply wc_region)
  refine wr_call (vs := [sl, S x]) rfl (indexS_ca l x sl w hsl (by omega)) rfl ?_
  rintro v w2 ⟨rfl, hk⟩
  (repeat first | (apply wr_assign; exact rfl; with_reducible (conv => enter [6, 3]; whnf)) | apply wr_end | (apply wr_cmp; (iterate 3 exact rfl); exact cmp_le _ _) | (apply wc_ret; try simp only [thenE, inBlockE, bodyQ]))
  exact leave1 (v := .bool (decide (0 ≤ idxS l x))) rfl rfl ⟨by rw [idxS_mem], hk⟩
set_option maxRecDepth 100000 in
set_option maxHeartbeats 1000000 in
theorem wrong_ca (s : List UInt8) (w : World) (hs : s.length ≤ 9223372036854775807) : Ca Tryz.prog 53 #[S s] w fun v w' => v = .bool (!decide (nameOk s)) ∧ Keeps NoB w w' := by
  refine ca_of_body (args := [S s]) Tryz.func53 rfl (by kernel_rfl) ?_
  (repeat first | (apply wr_move; exact rfl; with_reducible (conv => enter [6, 3]; whnf)) | (apply wr_assign; exact rfl; with_reducible (conv => enter [6, 3]; whnf)) | apply wr_end | apply wc_seq | apply wc_region)
  refine wr_call (vs := [S s]) rfl (name_ca s w hs) rfl ?_
  rintro v w2 ⟨rfl, hk⟩
  (repeat first | (apply wr_assign; exact rfl; with_reducible (conv => enter [6, 3]; whnf)) | apply wr_end | (apply wr_not; iterate 2 exact rfl) | (apply wc_ret; try simp only [thenE, inBlockE, bodyQ]))
  exact leave1 (v := .bool (!decide (nameOk s))) rfl rfl ⟨rfl, hk⟩
end Go.Proofs.YtajajahofkialaaGreatDoor

namespace Go.Proofs.YtajajahofkialaaGreatDoor
open Go Go.V Go.RowKit
set_option linter.unusedVariables false
set_option linter.unusedSimpArgs false

abbrev SetV (a : Bool) (nv : Value) : Value := .agg #[.bool a, nv]
def hasN (a : Bool) (l : TX) (x : List UInt8) : Bool := decide (nameOk x) && (a || decide (x ∈ l))
set_option maxRecDepth 100000 in
set_option maxHeartbeats 1000000 in
theorem listed_ca (a : Bool) (l : TX) (x : List UInt8) (nv : Value) (w : World) (hsl : SlR w 1 nv l.length (SL l)) (hlen : l.length ≤ 8796093022000) :
    Ca Tryz.prog 61 #[SetV a nv, S x] w fun v w' => v = .bool (decide (x ∈ l)) ∧ Keeps NoB w w' := by
  obtain ⟨an, cn, rfl, _, _⟩ := slr_strs hsl
  refine ca_of_body (args := [SetV a (.slice an l.length cn), S x]) Tryz.func61 rfl (by kernel_rfl) ?_
  apply wc_seq
  apply wc_region
  refine wr_box (v := SetV a (.slice an l.length cn)) rfl rfl ?_
  obtain ⟨w1, hw1⟩ : ∃ w1, w1 = w.alloc (.cells (SetV a (.slice an l.length cn)).cells 41) := ⟨_, rfl⟩
  obtain ⟨b1, hb1⟩ : ∃ b1, b1 = w.heap.size := ⟨_, rfl⟩
  have hk1 : Keeps NoB w w1 := by rw [hw1]; exact (Keeps.refl NoB w).alloc _
  have hc1 : w1.heap[b1]? = some (.cells #[.bool a, .slice an l.length cn] 41 (0, 0)) := by rw [hw1, hb1]; exact heap_alloc_same _ _
  rw [← hw1, ← hb1]
  clear hw1
  (repeat first | (apply wr_move; exact rfl; with_reducible (conv => enter [6, 3]; whnf)) | (apply wr_assign; exact rfl; with_reducible (conv => enter [6, 3]; whnf)) | apply wr_end | apply wc_seq | apply wc_region | (apply wr_fieldAddr; iterate 2 exact rfl) | (apply wr_load; (iterate 3 exact rfl); (focus repeat first | with_reducible assumption | exact heap_alloc_same _ _ | exact World.putObj_heap_same (by first | omega | (simp only [World.size_alloc, World.putObj_size, ne_eq]; omega)) | ((first | refine hAl ?_ ?_ | refine hPu ?_ ?_); focus first | omega | (simp only [World.size_alloc, World.putObj_size, ne_eq]; omega))); exact rfl; conv => enter [6, 3]; whnf))
  refine wr_call (vs := [.slice an l.length cn, S x]) rfl (contains_ca l x _ w1 (hsl.keep hk1 (fun _ _ h => h)) hlen) rfl ?_
  rintro v w2 ⟨rfl, hk⟩
  (repeat first | (apply wr_assign; exact rfl; with_reducible (conv => enter [6, 3]; whnf)) | apply wr_end | (apply wc_ret; try simp only [thenE, inBlockE, bodyQ]))
  exact leave1 (v := .bool (decide (x ∈ l))) rfl rfl ⟨rfl, hk1.trans hk⟩
set_option maxRecDepth 100000 in
set_option maxHeartbeats 1000000 in
theorem has_ca (a : Bool) (l : TX) (x : List UInt8) (nv : Value) (w : World) (hx : x.length ≤ 9223372036854775807) (hsl : SlR w 1 nv l.length (SL l)) (hlen : l.length ≤ 8796093022000) :
    Ca Tryz.prog 38 #[SetV a nv, S x] w fun v w' => v = .bool (hasN a l x) ∧ Keeps NoB w w' := by
  obtain ⟨an, cn, rfl, _, _⟩ := slr_strs hsl
  refine ca_of_body (args := [SetV a (.slice an l.length cn), S x]) Tryz.func38 rfl (by kernel_rfl) ?_
  unfold hasN
  apply wc_seq
  apply wc_region
  refine wr_box (v := SetV a (.slice an l.length cn)) rfl rfl ?_
  obtain ⟨w1, hw1⟩ : ∃ w1, w1 = w.alloc (.cells (SetV a (.slice an l.length cn)).cells 41) := ⟨_, rfl⟩
  obtain ⟨b1, hb1⟩ : ∃ b1, b1 = w.heap.size := ⟨_, rfl⟩
  have hk1 : Keeps NoB w w1 := by rw [hw1]; exact (Keeps.refl NoB w).alloc _
  have hc1 : w1.heap[b1]? = some (.cells #[.bool a, .slice an l.length cn] 41 (0, 0)) := by rw [hw1, hb1]; exact heap_alloc_same _ _
  rw [← hw1, ← hb1]
  clear hw1
  (repeat first | (apply wr_move; exact rfl; with_reducible (conv => enter [6, 3]; whnf)) | (apply wr_assign; exact rfl; with_reducible (conv => enter [6, 3]; whnf)) | apply wr_end | apply wc_seq | apply wc_region)
  refine wr_call (vs := [S x]) rfl (name_ca x w1 hx) rfl ?_
  rintro v w2 ⟨rfl, hk2⟩
  have hc2 := hk2.heap hc1 (fun h => h)
  by_cases hn : nameOk x
  rotate_left
  · rw [decide_eq_false hn]
    (repeat first | (apply wr_move; exact rfl; with_reducible (conv => enter [6, 3]; whnf)) | (apply wr_assign; exact rfl; with_reducible (conv => enter [6, 3]; whnf)) | apply wr_end | (apply wr_pick (t := false); (iterate 2 exact rfl); with_reducible (conv => enter [6, 3]; whnf)) | (apply wc_ret; try simp only [thenE, inBlockE, bodyQ]) | (apply wr_skip; exact rfl))
    exact leave1 (v := .bool false) rfl rfl ⟨rfl, hk1.trans hk2⟩
  rw [decide_eq_true hn]
  cases a with
  | true =>
    (repeat first | (apply wr_move; exact rfl; with_reducible (conv => enter [6, 3]; whnf)) | (apply wr_assign; exact rfl; with_reducible (conv => enter [6, 3]; whnf)) | apply wr_end | (apply wr_fieldAddr; iterate 2 exact rfl) | (apply wr_load; (iterate 3 exact rfl); (focus repeat first | with_reducible assumption | exact heap_alloc_same _ _ | exact World.putObj_heap_same (by first | omega | (simp only [World.size_alloc, World.putObj_size, ne_eq]; omega)) | ((first | refine hAl ?_ ?_ | refine hPu ?_ ?_); focus first | omega | (simp only [World.size_alloc, World.putObj_size, ne_eq]; omega))); exact rfl; conv => enter [6, 3]; whnf) | (apply wr_pick (t := true); (iterate 2 exact rfl); with_reducible (conv => enter [6, 3]; whnf)) | (apply wc_ret; try simp only [thenE, inBlockE, bodyQ]) | (apply wr_skip; exact rfl))
    exact leave1 (v := .bool true) rfl rfl ⟨rfl, hk1.trans hk2⟩
  | false =>
    (repeat first | (apply wr_move; exact rfl; with_reducible (conv => enter [6, 3]; whnf)) | (apply wr_fieldAddr; iterate 2 exact rfl) | (apply wr_load; (iterate 3 exact rfl); (focus repeat first | with_reducible assumption | exact heap_alloc_same _ _ | exact World.putObj_heap_same (by first | omega | (simp only [World.size_alloc, World.putObj_size, ne_eq]; omega)) | ((first | refine hAl ?_ ?_ | refine hPu ?_ ?_); focus first | omega | (simp only [World.size_alloc, World.putObj_size, ne_eq]; omega))); exact rfl; conv => enter [6, 3]; whnf))
    refine wr_loadAll (cs := [.bool false, .slice an l.length cn]) rfl rfl rfl hc2 rfl ?_
    (repeat first | (apply wr_move; exact rfl; with_reducible (conv => enter [6, 3]; whnf)))
    refine wr_call (vs := [SetV false (.slice an l.length cn), S x]) rfl (listed_ca false l x _ w2 ((hsl.keep hk1 (fun _ _ h => h)).keep hk2 (fun _ _ h => h)) hlen) rfl ?_
    rintro v w3 ⟨rfl, hk3⟩
    (repeat first | (apply wr_assign; exact rfl; with_reducible (conv => enter [6, 3]; whnf)) | apply wr_end | (apply wr_pick (t := true); (iterate 2 exact rfl); with_reducible (conv => enter [6, 3]; whnf)) | (apply wr_pick (t := false); (iterate 2 exact rfl); with_reducible (conv => enter [6, 3]; whnf)) | (apply wc_ret; try simp only [thenE, inBlockE, bodyQ]))
    exact leave1 (v := .bool (decide (x ∈ l))) rfl rfl ⟨by simp, (hk1.trans hk2).trans hk3⟩
set_option maxRecDepth 100000 in
set_option maxHeartbeats 1000000 in
theorem empty_ca (a : Bool) (l : TX) (nv : Value) (w : World) (hsl : SlR w 1 nv l.length (SL l)) :
    Ca Tryz.prog 34 #[SetV a nv] w fun v w' => v = .bool (!a && decide (l.length = 0)) ∧ Keeps NoB w w' := by
  obtain ⟨an, cn, rfl, _, _⟩ := slr_strs hsl
  refine ca_of_body (args := [SetV a (.slice an l.length cn)]) Tryz.func34 rfl (by kernel_rfl) ?_
  apply wc_seq
  apply wc_region
  refine wr_box (v := SetV a (.slice an l.length cn)) rfl rfl ?_
  obtain ⟨w1, hw1⟩ : ∃ w1, w1 = w.alloc (.cells (SetV a (.slice an l.length cn)).cells 41) := ⟨_, rfl⟩
  obtain ⟨b1, hb1⟩ : ∃ b1, b1 = w.heap.size := ⟨_, rfl⟩
  have hk1 : Keeps NoB w w1 := by rw [hw1]; exact (Keeps.refl NoB w).alloc _
  have hc1 : w1.heap[b1]? = some (.cells #[.bool a, .slice an l.length cn] 41 (0, 0)) := by rw [hw1, hb1]; exact heap_alloc_same _ _
  rw [← hw1, ← hb1]
  clear hw1
  cases a with
  | true =>
    (repeat first | (apply wr_move; exact rfl; with_reducible (conv => enter [6, 3]; whnf)) | (apply wr_assign; exact rfl; with_reducible (conv => enter [6, 3]; whnf)) | apply wr_end | apply wc_seq | apply wc_region | (apply wr_fieldAddr; iterate 2 exact rfl) | (apply wr_not; iterate 2 exact rfl) | (apply wr_load; (iterate 3 exact rfl); (focus repeat first | with_reducible assumption | exact heap_alloc_same _ _ | exact World.putObj_heap_same (by first | omega | (simp only [World.size_alloc, World.putObj_size, ne_eq]; omega)) | ((first | refine hAl ?_ ?_ | refine hPu ?_ ?_); focus first | omega | (simp only [World.size_alloc, World.putObj_size, ne_eq]; omega))); exact rfl; conv => enter [6, 3]; whnf) | (apply wr_pick (t := false); (iterate 2 exact rfl); with_reducible (conv => enter [6, 3]; whnf)) | (apply wc_ret; try simp only [thenE, inBlockE, bodyQ]) | (apply wr_skip; exact rfl))
    exact leave1 (v := .bool false) rfl rfl ⟨rfl, hk1⟩
  | false =>
    by_cases h0 : l.length = 0
    · rw [decide_eq_true h0]
      (repeat first | (apply wr_move; exact rfl; with_reducible (conv => enter [6, 3]; whnf)) | (apply wr_assign; exact rfl; with_reducible (conv => enter [6, 3]; whnf)) | apply wr_end | apply wc_seq | apply wc_region | (apply wr_fieldAddr; iterate 2 exact rfl) | (apply wr_not; iterate 2 exact rfl) | (apply wr_len_slice; iterate 2 exact rfl) | (apply wr_load; (iterate 3 exact rfl); (focus repeat first | with_reducible assumption | exact heap_alloc_same _ _ | exact World.putObj_heap_same (by first | omega | (simp only [World.size_alloc, World.putObj_size, ne_eq]; omega)) | ((first | refine hAl ?_ ?_ | refine hPu ?_ ?_); focus first | omega | (simp only [World.size_alloc, World.putObj_size, ne_eq]; omega))); exact rfl; conv => enter [6, 3]; whnf) | (apply wr_cmp; (iterate 3 exact rfl); exact cmpT (by dsimp only [cmpP]; first | done | omega)) | (apply wr_pick (t := true); (iterate 2 exact rfl); with_reducible (conv => enter [6, 3]; whnf)) | (apply wc_ret; try simp only [thenE, inBlockE, bodyQ]))
      exact leave1 (v := .bool true) rfl rfl ⟨rfl, hk1⟩
    · rw [decide_eq_false h0]
      (repeat first | (apply wr_move; exact rfl; with_reducible (conv => enter [6, 3]; whnf)) | (apply wr_assign; exact rfl; with_reducible (conv => enter [6, 3]; whnf)) | apply wr_end | apply wc_seq | apply wc_region | (apply wr_fieldAddr; iterate 2 exact rfl) | (apply wr_not; iterate 2 exact rfl) | (apply wr_len_slice; iterate 2 exact rfl) | (apply wr_load; (iterate 3 exact rfl); (focus repeat first | with_reducible assumption | exact heap_alloc_same _ _ | exact World.putObj_heap_same (by first | omega | (simp only [World.size_alloc, World.putObj_size, ne_eq]; omega)) | ((first | refine hAl ?_ ?_ | refine hPu ?_ ?_); focus first | omega | (simp only [World.size_alloc, World.putObj_size, ne_eq]; omega))); exact rfl; conv => enter [6, 3]; whnf) | (apply wr_cmp; (iterate 3 exact rfl); exact cmpF (by dsimp only [cmpN]; first | done | omega)) | (apply wr_pick (t := true); (iterate 2 exact rfl); with_reducible (conv => enter [6, 3]; whnf)) | (apply wc_ret; try simp only [thenE, inBlockE, bodyQ]))
      exact leave1 (v := .bool false) rfl rfl ⟨rfl, hk1⟩
end Go.Proofs.YtajajahofkialaaGreatDoor

namespace Go.Proofs.YtajajahofkialaaGreatDoor
open Go Go.V Go.RowKit
set_option linter.unusedVariables false
set_option linter.unusedSimpArgs false

abbrev TT := List UInt8
theorem leT_trans {a b c : TT} (h1 : a ≤ b) (h2 : b ≤ c) : a ≤ c := List.le_trans h1 h2
theorem ltT_irrefl (a : TT) : ¬ a < a := List.lt_irrefl a
theorem leT_antisymm {a b : TT} (h1 : a ≤ b) (h2 : b ≤ a) : a = b := List.le_antisymm h1 h2
theorem leT_total (a b : TT) : a ≤ b ∨ b ≤ a := List.le_total a b
theorem not_ltT {a b : TT} : ¬ a < b ↔ b ≤ a := List.not_lt
theorem not_leT {a b : TT} : ¬ a ≤ b ↔ b < a := List.not_le
theorem ltT_le {a b : TT} (h : a < b) : a ≤ b := List.le_of_lt h
theorem ltT_of {a b : TT} (h : a ≤ b) (hn : a ≠ b) : a < b := by
  rcases Decidable.em (a < b) with h1 | h1
  · exact h1
  · exact absurd (leT_antisymm h (not_ltT.1 h1)) hn
theorem ltT_of_le_lt {a b c : TT} (h1 : a ≤ b) (h2 : b < c) : a < c := by
  rcases Decidable.em (a < c) with h | h
  · exact h
  · exact absurd (leT_trans (not_ltT.1 h) h1) (not_leT.2 h2)
theorem ltT_trans {a b c : TT} (h1 : a < b) (h2 : b < c) : a < c := ltT_of_le_lt (ltT_le h1) h2
theorem ltT_asymm {a b : TT} (h1 : a < b) (h2 : b < a) : False := ltT_irrefl a (ltT_trans h1 h2)

def Rises (l : TX) : Prop := l.Pairwise (· < ·)
theorem rises_ext : ∀ {a b : TX}, Rises a → Rises b → (∀ x, x ∈ a ↔ x ∈ b) → a = b
  | [], [], _, _, _ => rfl
  | [], y :: b, _, _, h => by have := (h y).2 (by simp); cases this
  | x :: a, [], _, _, h => by have := (h x).1 (by simp); cases this
  | x :: a, y :: b, ha, hb, h => by
    obtain ⟨ha1, ha2⟩ := List.pairwise_cons.1 ha
    obtain ⟨hb1, hb2⟩ := List.pairwise_cons.1 hb
    have hxy : x = y := by
      rcases List.mem_cons.1 ((h x).1 (by simp)) with h1 | h1
      · exact h1
      · rcases List.mem_cons.1 ((h y).2 (by simp)) with h2 | h2
        · exact h2.symm
        · exact (ltT_asymm (hb1 x h1) (ha1 y h2)).elim
    subst hxy
    rw [rises_ext ha2 hb2 fun z => ⟨fun hz => ?_, fun hz => ?_⟩]
    · rcases List.mem_cons.1 ((h z).1 (by simp [hz])) with h1 | h1
      · subst h1; exact (ltT_irrefl _ (ha1 _ hz)).elim
      · exact h1
    · rcases List.mem_cons.1 ((h z).2 (by simp [hz])) with h1 | h1
      · subst h1; exact (ltT_irrefl _ (hb1 _ hz)).elim
      · exact h1
theorem mem_cut (d : Array TT) : ∀ m, m ≤ d.size → ∀ x, x ∈ Lib.compactUpTo d m ↔ ∃ j, j < m ∧ d[j]! = x
  | 0, _, x => by simp [Lib.compactUpTo]
  | m + 1, hm, x => by
    rw [Lib.compactUpTo_succ, List.mem_append, mem_cut d m (by omega)]
    constructor
    · rintro (⟨j, hj, e⟩ | h)
      · exact ⟨j, by omega, e⟩
      · split at h
        · exact ⟨m, by omega, (List.mem_singleton.1 h).symm⟩
        · cases h
    · rintro ⟨j, hj, e⟩
      by_cases hjm : j = m
      · subst hjm
        by_cases hk : Lib.keeps d j = true
        · right; rw [if_pos hk]; simp [e]
        · left
          simp [Lib.keeps] at hk
          exact ⟨j - 1, by omega, by rw [← hk.2]; exact e⟩
      · exact .inl ⟨j, by omega, e⟩
theorem rises_cut (d : Array TT) (hs : ∀ i j, i ≤ j → j < d.size → d[i]! ≤ d[j]!) : ∀ m, m ≤ d.size → Rises (Lib.compactUpTo d m) ∧ ∀ x ∈ Lib.compactUpTo d m, x ≤ d[m - 1]!
  | 0, _ => by simp [Lib.compactUpTo, Rises]
  | m + 1, hm => by
    obtain ⟨h1, h2⟩ := rises_cut d hs m (by omega)
    have h3 : ∀ x ∈ Lib.compactUpTo d m, x ≤ d[m]! := fun x hx => by
      have hm0 : 0 < m := by
        obtain ⟨j, hj, _⟩ := (mem_cut d m (by omega) x).1 hx
        omega
      exact leT_trans (h2 x hx) (hs _ _ (by omega) (by omega))
    rw [Lib.compactUpTo_succ]
    by_cases hk : Lib.keeps d m = true
    · rw [if_pos hk]
      refine ⟨?_, ?_⟩
      · unfold Rises
        rw [List.pairwise_append]
        refine ⟨h1, by simp, ?_⟩
        intro a ha b hb
        simp at hb
        subst hb
        obtain ⟨j, hj, rfl⟩ := (mem_cut d m (by omega) a).1 ha
        simp [Lib.keeps] at hk
        rcases hk with h | h
        · omega
        · exact ltT_of_le_lt (hs j (m - 1) (by omega) (by omega)) (ltT_of (hs (m - 1) m (by omega) (by omega)) (fun e => h e.symm))
      · intro x hx
        rcases List.mem_append.1 hx with hx | hx
        · exact h3 x hx
        · simp at hx; subst hx; rw [Nat.add_sub_cancel]; exact leT_trans (hs m m (Nat.le_refl _) (by omega)) (by rw [getElem!_pos d m (by omega)]; exact hs m m (Nat.le_refl _) (by omega) |> fun h => by rw [getElem!_pos d m (by omega)] at h; exact h)
    · rw [if_neg hk, List.append_nil]
      exact ⟨h1, fun x hx => by rw [Nat.add_sub_cancel]; exact h3 x hx⟩
theorem srt_sorted (l : TX) : ∀ i j, i ≤ j → j < (srt l).toArray.size → (srt l).toArray[i]! ≤ (srt l).toArray[j]! := by
  intro i j hij hj
  have hp : (srt l).Pairwise fun x y => decide (x ≤ y) = true := by
    refine List.pairwise_mergeSort (le := fun x y => decide (x ≤ y)) (fun a b c h1 h2 => ?_) (fun a b => ?_) l
    · simp only [decide_eq_true_eq] at *; exact leT_trans h1 h2
    · simp only [Bool.or_eq_true, decide_eq_true_eq]; exact leT_total a b
  have hj' : j < (srt l).length := by simpa using hj
  rw [getElem!_pos _ i (by simpa using by omega), getElem!_pos _ j hj]
  by_cases he : i = j
  · subst he; exact not_ltT.1 (ltT_irrefl _)
  · have := List.pairwise_iff_getElem.1 hp i j (by omega) hj' (by omega)
    simpa using this
theorem srtd_rises (l : TX) : Rises (srtd l) := (rises_cut (srt l).toArray (srt_sorted l) _ (by simp)).1
theorem mem_srtd (l : TX) (x : TT) : x ∈ srtd l ↔ x ∈ l := by
  unfold srtd Lib.compact
  rw [mem_cut _ _ (by simp)]
  have hp := List.mergeSort_perm l fun x y => decide (x ≤ y)
  rw [← hp.mem_iff]
  constructor
  · rintro ⟨j, hj, rfl⟩
    rw [getElem!_pos _ j (by simpa using hj)]
    exact List.getElem_mem _
  · intro h
    obtain ⟨j, hj⟩ := List.getElem?_of_mem h
    obtain ⟨h1, h2⟩ := List.getElem?_eq_some_iff.1 hj
    exact ⟨j, h1, by rw [getElem!_pos _ j (by rw [List.size_toArray]; exact h1)]; rw [List.getElem_toArray]; exact h2⟩
theorem srtd_id {l : TX} (h : Rises l) : srtd l = l := rises_ext (srtd_rises l) h (mem_srtd l)
theorem srtd_eq {l m : TX} (hm : Rises m) (h : ∀ x, x ∈ l ↔ x ∈ m) : srtd l = m := rises_ext (srtd_rises l) hm fun x => by rw [mem_srtd, h]
theorem mem_keepF (p : TT → Bool) (l : TX) (x : TT) : x ∈ keepF p l ↔ x ∈ l ∧ p x = false := by
  unfold keepF
  simp [List.mem_filter]
theorem keepF_rises (p : TT → Bool) {l : TX} (h : Rises l) : Rises (keepF p l) := List.Pairwise.filter _ h

/-! ### Sets -/
abbrev PS := Bool × TX
def Fine (s : PS) : Prop := Rises s.2 ∧ ∀ x ∈ s.2, nameOk x
theorem fine_ext {a b : PS} (ha : Fine a) (hb : Fine b) (h1 : a.1 = b.1) (h : ∀ x, x ∈ a.2 ↔ x ∈ b.2) : a = b := Prod.ext h1 (rises_ext ha.1 hb.1 h)
def star : TT := [42]
theorem star_no : ¬ nameOk star := by decide
def ofP (l : TX) : PS := (decide (star ∈ l), srtd (keepF (fun s => !decide (nameOk s)) l))
def unionP (l : List PS) : PS := (l.any (·.1), srtd (l.flatMap (·.2)))
def lessP (a b : PS) : PS := (a.1 && !b.1, keepF (fun x => decide (x ∈ b.2)) a.2)
def listP (a : PS) : TX := if a.1 = true then star :: a.2 else a.2
def hasP (a : PS) (x : TT) : Bool := hasN a.1 a.2 x
theorem ofP_fine (l : TX) : Fine (ofP l) := ⟨srtd_rises _, fun x hx => by
  have := (mem_srtd _ _).1 hx
  rw [mem_keepF] at this
  simpa using this.2⟩
theorem mem_ofP (l : TX) (x : TT) : x ∈ (ofP l).2 ↔ x ∈ l ∧ nameOk x := by
  show x ∈ srtd _ ↔ _
  rw [mem_srtd, mem_keepF]; simp
theorem mem_unionP (l : List PS) (x : TT) : x ∈ (unionP l).2 ↔ ∃ s ∈ l, x ∈ s.2 := by
  show x ∈ srtd _ ↔ _
  rw [mem_srtd, List.mem_flatMap]
theorem unionP_fine {l : List PS} (h : ∀ s ∈ l, Fine s) : Fine (unionP l) := ⟨srtd_rises _, fun x hx => by
  obtain ⟨s, hs, hx⟩ := (mem_unionP l x).1 hx
  exact (h s hs).2 x hx⟩
theorem mem_lessP (a b : PS) (x : TT) : x ∈ (lessP a b).2 ↔ x ∈ a.2 ∧ x ∉ b.2 := by
  show x ∈ keepF _ _ ↔ _
  rw [mem_keepF]; simp
theorem lessP_fine {a b : PS} (h : Fine a) : Fine (lessP a b) := ⟨keepF_rises _ h.1, fun x hx => h.2 x ((mem_lessP a b x).1 hx).1⟩
theorem nil_fine (a : Bool) : Fine (a, []) := ⟨List.Pairwise.nil, fun x hx => by cases hx⟩
theorem mem_listP (a : PS) (x : TT) : x ∈ listP a ↔ (a.1 = true ∧ x = star) ∨ x ∈ a.2 := by
  unfold listP; cases h : a.1 <;> simp
theorem ofP_listP {a : PS} (h : Fine a) : ofP (listP a) = a := by
  refine fine_ext (ofP_fine _) h ?_ fun x => ?_
  · show decide (star ∈ listP a) = a.1
    cases ha : a.1 with
    | true => rw [decide_eq_true]; rw [mem_listP]; exact .inl ⟨ha, rfl⟩
    | false =>
      rw [decide_eq_false]; rw [mem_listP]
      rintro (⟨h1, _⟩ | h1)
      · rw [ha] at h1; cases h1
      · exact star_no (h.2 _ h1)
  · rw [mem_ofP, mem_listP]
    constructor
    · rintro ⟨⟨_, rfl⟩ | h1, h2⟩
      · exact absurd h2 star_no
      · exact h1
    · exact fun h1 => ⟨.inr h1, h.2 x h1⟩
theorem keepF_len (p : TT → Bool) (l : TX) : (keepF p l).length ≤ l.length := by
  have h := keepF_le p l l.length
  rw [List.take_length] at h
  exact h
theorem ofP_le (l : TX) : (ofP l).2.length ≤ l.length := Nat.le_trans (srtd_le _) (keepF_len _ _)
theorem lessP_le (a b : PS) : (lessP a b).2.length ≤ a.2.length := keepF_len _ _
theorem unionP_le (l : List PS) : (unionP l).2.length ≤ (l.flatMap (·.2)).length := srtd_le _
theorem listP_le (a : PS) : (listP a).length ≤ a.2.length + 1 := by
  unfold listP; split <;> simp
theorem hasP_def (a : PS) (x : TT) : hasP a x = (decide (nameOk x) && (a.1 || decide (x ∈ a.2))) := rfl
theorem union_has (a b : PS) (x : TT) : hasP (unionP [a, b]) x = (hasP a x || hasP b x) := by
  rw [hasP_def, hasP_def, hasP_def]
  have h1 : (unionP [a, b]).1 = (a.1 || b.1) := by simp [unionP]
  have h2 : decide (x ∈ (unionP [a, b]).2) = (decide (x ∈ a.2) || decide (x ∈ b.2)) := by
    apply Bool.eq_iff_iff.2
    rw [decide_eq_true_eq, mem_unionP]; simp
  rw [h1, h2]
  cases decide (nameOk x) <;> cases a.1 <;> cases b.1 <;> simp
theorem union_comm {a b : PS} (ha : Fine a) (hb : Fine b) : unionP [a, b] = unionP [b, a] := by
  have h1 : Fine (unionP [a, b]) := unionP_fine (by intro s hs; simp at hs; rcases hs with rfl | rfl <;> assumption)
  have h2 : Fine (unionP [b, a]) := unionP_fine (by intro s hs; simp at hs; rcases hs with rfl | rfl <;> assumption)
  refine fine_ext h1 h2 (by simp [unionP, Bool.or_comm]) fun x => ?_
  rw [mem_unionP, mem_unionP]; simp [or_comm]
theorem union_fine2 {a b : PS} (ha : Fine a) (hb : Fine b) : Fine (unionP [a, b]) := unionP_fine (by intro s hs; simp at hs; rcases hs with rfl | rfl <;> assumption)
theorem mem_union2 (a b : PS) (x : TT) : x ∈ (unionP [a, b]).2 ↔ x ∈ a.2 ∨ x ∈ b.2 := by rw [mem_unionP]; simp
theorem union_all2 (a b : PS) : (unionP [a, b]).1 = (a.1 || b.1) := by simp [unionP]
theorem union_self {a : PS} (ha : Fine a) : unionP [a, a] = a := by
  refine fine_ext (union_fine2 ha ha) ha (by simp [unionP]) fun x => ?_
  rw [mem_union2]; simp
theorem union_none : unionP [] = (false, []) := by
  have : (unionP []).2 = [] := List.eq_nil_iff_forall_not_mem.2 fun x hx => by rw [mem_unionP] at hx; obtain ⟨s, hs, _⟩ := hx; cases hs
  exact Prod.ext rfl this
def blkOf : Value → Nat
  | .pointer (some ⟨b, _, _⟩) => b
  | _ => 0
theorem nameOk_le {x : TT} (h : nameOk x) : x.length ≤ 64 := by unfold nameOk at h; omega
theorem listP_ok {a : PS} (h : Fine a) : ∀ x ∈ listP a, x.length ≤ 9223372036854775807 := by
  intro x hx
  rcases (mem_listP a x).1 hx with ⟨_, rfl⟩ | h1
  · decide
  · have := nameOk_le (h.2 x h1)
    omega
theorem less_self (a : PS) : lessP a a = (false, []) := by
  have h2 : (lessP a a).2 = [] := List.eq_nil_iff_forall_not_mem.2 fun x hx => by rw [mem_lessP] at hx; exact hx.2 hx.1
  exact Prod.ext (by simp [lessP]) h2
theorem less_back {a b : PS} (ha : Fine a) : unionP [lessP a b, lessP a (lessP a b)] = a := by
  refine fine_ext (union_fine2 (lessP_fine ha) (lessP_fine ha)) ha ?_ fun x => ?_
  · rw [union_all2]
    show ((a.1 && !b.1) || (a.1 && !(a.1 && !b.1))) = a.1
    cases a.1 <;> cases b.1 <;> rfl
  · rw [mem_union2, mem_lessP, mem_lessP, mem_lessP]
    by_cases h : x ∈ b.2 <;> simp [h]
theorem grow_shrink {a b : PS} (ha : Fine a) (hb : Fine b) : lessP (unionP [a, b]) (lessP b a) = a := by
  refine fine_ext (lessP_fine (union_fine2 ha hb)) ha ?_ fun x => ?_
  · show ((unionP [a, b]).1 && !(b.1 && !a.1)) = a.1
    rw [union_all2]
    cases a.1 <;> cases b.1 <;> rfl
  · rw [mem_lessP, mem_union2, mem_lessP]
    by_cases h : x ∈ a.2 <;> simp [h]
end Go.Proofs.YtajajahofkialaaGreatDoor
