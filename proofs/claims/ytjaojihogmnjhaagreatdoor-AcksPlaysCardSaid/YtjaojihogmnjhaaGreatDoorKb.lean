/- check.Order. -/
import Derived.Test.YtjaojihogmnjhaaGreatDoorKa
import Derived.Test.YtjaojihogmnjhaaGreatDoorVJ
import Derived.Sort.Walk0
namespace Go.Proofs.YtjaojihogmnjhaaGreatDoor
open Go Go.V Go.RowKit
set_option linter.unusedVariables false
set_option linter.unusedSimpArgs false

/-- One key is ahead of another. -/
def ltK (a b : KY) : Prop := a.1 < b.1 ∨ (a.1 = b.1 ∧ a.2 < b.2)
instance (a b : KY) : Decidable (ltK a b) := by unfold ltK; infer_instance
def blkOf : Value → Nat
  | .pointer (some ⟨b, _, _⟩) => b
  | _ => 0
def cmpI (x y : Int) : Int := if x < y then -1 else if y < x then 1 else 0
def cmpS (x y : TT) : Int := if x < y then -1 else if y < x then 1 else 0
def ordK (a b : KY) : Int := if cmpI a.1 b.1 ≠ 0 then cmpI a.1 b.1 else cmpS a.2 b.2
theorem bytesLt_irr (x : TT) : ¬ x < x := List.lt_irrefl x
theorem bytesLt_tri (x y : TT) (h1 : ¬ x < y) (h2 : ¬ y < x) : x = y := List.le_antisymm (List.not_lt.1 h2) (List.not_lt.1 h1)
theorem ordK_lt (a b : KY) : ordK a b < 0 ↔ ltK a b := by
  unfold ordK ltK cmpI cmpS
  by_cases h1 : a.1 < b.1
  · simp [h1]
  · by_cases h2 : b.1 < a.1
    · have h3 : a.1 ≠ b.1 := by omega
      simp [h1, h2, h3]
    · have h3 : a.1 = b.1 := by omega
      simp only [h1, h2, h3, if_false]
      by_cases h4 : a.2 < b.2
      · simp [h4]
      · by_cases h5 : b.2 < a.2
        · simp [h4, h5]
        · simp [h4, h5]
theorem cmpI_b (x y : Int) : -1 ≤ cmpI x y ∧ cmpI x y ≤ 1 := by unfold cmpI; split; omega; split <;> omega
theorem cmpS_b (x y : TT) : -1 ≤ cmpS x y ∧ cmpS x y ≤ 1 := by unfold cmpS; split; omega; split <;> omega
theorem nanS_ca (s : TT) (w : World) : Ca Tryz.prog 70 #[S s] w fun v w' => v = .bool false ∧ w' = w := by
  refine ca_of_body (args := [S s]) Tryz.func70 rfl (by kernel_rfl) ?_
  (repeat first | (apply wr_move; exact rfl; with_reducible (conv => enter [6, 3]; whnf)) | (apply wr_assign; exact rfl; with_reducible (conv => enter [6, 3]; whnf)) | apply wr_end | apply wc_seq | apply wc_region | (apply wr_strnec; (iterate 3 exact rfl); (first | exact decide_eq_true (by with_reducible assumption) | exact decide_eq_false (by with_reducible assumption) | exact decide_eq_true rfl | exact rfl); with_reducible (conv => enter [6, 3]; whnf)) | (apply wc_ret; try simp only [thenE, inBlockE, bodyQ]))
  exact leave1 (v := .bool false) rfl rfl ⟨rfl, by trivial⟩
theorem nanI_ca (x : Int) (w : World) : Ca Tryz.prog 69 #[.int .i64 x] w fun v w' => v = .bool false ∧ w' = w := by
  refine Ca.of_calls (Tryz.cmp_isNaN_int x w) ?_
  rintro e w' ⟨h1, h2⟩
  exact ⟨_, h1, rfl, h2⟩
set_option maxRecDepth 100000 in
theorem cmpI_ca (x y : Int) (w : World) : Ca Tryz.prog 46 #[.int .i64 x, .int .i64 y] w fun v w' => v = .int .i64 (cmpI x y) ∧ w' = w := by
  refine ca_of_body (args := [.int .i64 x, .int .i64 y]) Tryz.func46 rfl (by kernel_rfl) ?_
  (repeat first | (apply wr_move; exact rfl; with_reducible (conv => enter [6, 3]; whnf)) | (apply wr_assign; exact rfl; with_reducible (conv => enter [6, 3]; whnf)) | apply wr_end | apply wc_seq | apply wc_region)
  refine wr_call (vs := [.int .i64 x]) rfl (nanI_ca x w) rfl ?_
  rintro v w1 ⟨rfl, rfl⟩
  (repeat first | (apply wr_move; exact rfl; with_reducible (conv => enter [6, 3]; whnf)) | (apply wr_assign; exact rfl; with_reducible (conv => enter [6, 3]; whnf)) | apply wr_end | apply wc_seq | apply wc_region)
  refine wr_call (vs := [.int .i64 y]) rfl (nanI_ca y w1) rfl ?_
  rintro v w2 ⟨rfl, rfl⟩
  by_cases h1 : x < y
  · (repeat first | (apply wr_move; exact rfl; with_reducible (conv => enter [6, 3]; whnf)) | (apply wr_assign; exact rfl; with_reducible (conv => enter [6, 3]; whnf)) | apply wr_end | apply wc_seq | apply wc_region | apply wc_skip | (apply wr_cmp; (iterate 3 exact rfl); exact cmpT (by dsimp only [cmpP]; first | done | omega)) | (apply wc_true; exact rfl) | (apply wc_false; exact rfl) | (apply wc_ret; try simp only [thenE, inBlockE, bodyQ]))
    exact leave1 (v := .int .i64 (-1)) rfl rfl ⟨by unfold cmpI; rw [if_pos h1], by trivial⟩
  · by_cases h2 : y < x
    · (repeat first | (apply wr_move; exact rfl; with_reducible (conv => enter [6, 3]; whnf)) | (apply wr_assign; exact rfl; with_reducible (conv => enter [6, 3]; whnf)) | apply wr_end | apply wc_seq | apply wc_region | apply wc_skip | (apply wr_cmp; (iterate 3 exact rfl); exact cmpT (by dsimp only [cmpP]; first | done | omega)) | (apply wr_cmp; (iterate 3 exact rfl); exact cmpF (by dsimp only [cmpN]; first | done | omega)) | (apply wc_true; exact rfl) | (apply wc_false; exact rfl) | (apply wc_ret; try simp only [thenE, inBlockE, bodyQ]))
      exact leave1 (v := .int .i64 1) rfl rfl ⟨by unfold cmpI; rw [if_neg h1, if_pos h2], by trivial⟩
    · (repeat first | (apply wr_move; exact rfl; with_reducible (conv => enter [6, 3]; whnf)) | (apply wr_assign; exact rfl; with_reducible (conv => enter [6, 3]; whnf)) | apply wr_end | apply wc_seq | apply wc_region | apply wc_skip | (apply wr_cmp; (iterate 3 exact rfl); exact cmpF (by dsimp only [cmpN]; first | done | omega)) | (apply wc_false; exact rfl) | (apply wc_ret; try simp only [thenE, inBlockE, bodyQ]))
      exact leave1 (v := .int .i64 0) rfl rfl ⟨by unfold cmpI; rw [if_neg h1, if_neg h2], by trivial⟩
set_option maxRecDepth 100000 in
theorem cmpS_ca (x y : TT) (w : World) : Ca Tryz.prog 47 #[S x, S y] w fun v w' => v = .int .i64 (cmpS x y) ∧ w' = w := by
  refine ca_of_body (args := [S x, S y]) Tryz.func47 rfl (by kernel_rfl) ?_
  (repeat first | (apply wr_move; exact rfl; with_reducible (conv => enter [6, 3]; whnf)) | (apply wr_assign; exact rfl; with_reducible (conv => enter [6, 3]; whnf)) | apply wr_end | apply wc_seq | apply wc_region)
  refine wr_call (vs := [S x]) rfl (nanS_ca x w) rfl ?_
  rintro v w1 ⟨rfl, rfl⟩
  (repeat first | (apply wr_move; exact rfl; with_reducible (conv => enter [6, 3]; whnf)) | (apply wr_assign; exact rfl; with_reducible (conv => enter [6, 3]; whnf)) | apply wr_end | apply wc_seq | apply wc_region)
  refine wr_call (vs := [S y]) rfl (nanS_ca y w1) rfl ?_
  rintro v w2 ⟨rfl, rfl⟩
  by_cases h1 : x < y
  · (repeat first | (apply wr_move; exact rfl; with_reducible (conv => enter [6, 3]; whnf)) | (apply wr_assign; exact rfl; with_reducible (conv => enter [6, 3]; whnf)) | apply wr_end | apply wc_seq | apply wc_region | apply wc_skip | (apply wc_false; exact rfl))
    refine wr_strcmp (a := x) (b := y) (c := true) rfl rfl rfl (.inl ⟨rfl, by rw [Go.Proofs.bytesLess_eq, decide_eq_true h1]⟩) ?_
    (repeat first | (apply wr_assign; exact rfl; with_reducible (conv => enter [6, 3]; whnf)) | apply wr_end | apply wc_seq | apply wc_region | (apply wc_true; exact rfl) | (apply wc_ret; try simp only [thenE, inBlockE, bodyQ]))
    exact leave1 (v := .int .i64 (-1)) rfl rfl ⟨by unfold cmpS; rw [if_pos h1], by trivial⟩
  · by_cases h2 : y < x
    · have hne : (x == y) = false := by
        rw [beq_eq_false_iff_ne]
        rintro rfl
        exact bytesLt_irr x h2
      (repeat first | (apply wr_move; exact rfl; with_reducible (conv => enter [6, 3]; whnf)) | (apply wr_assign; exact rfl; with_reducible (conv => enter [6, 3]; whnf)) | apply wr_end | apply wc_seq | apply wc_region | apply wc_skip | (apply wc_false; exact rfl))
      refine wr_strcmp (a := x) (b := y) (c := false) rfl rfl rfl (.inl ⟨rfl, by rw [Go.Proofs.bytesLess_eq, decide_eq_false h1]⟩) ?_
      (repeat first | (apply wr_move; exact rfl; with_reducible (conv => enter [6, 3]; whnf)) | apply wr_end | apply wc_seq | apply wc_region | apply wc_skip | (apply wc_false; exact rfl))
      refine wr_strcmp (a := x) (b := y) (c := true) rfl rfl rfl (.inr (.inr (.inl ⟨rfl, by rw [Go.Proofs.bytesLess_eq, decide_eq_false h1, hne]; rfl⟩))) ?_
      (repeat first | (apply wr_assign; exact rfl; with_reducible (conv => enter [6, 3]; whnf)) | apply wr_end | apply wc_seq | apply wc_region | (apply wc_true; exact rfl) | (apply wc_ret; try simp only [thenE, inBlockE, bodyQ]))
      exact leave1 (v := .int .i64 1) rfl rfl ⟨by unfold cmpS; rw [if_neg h1, if_pos h2], by trivial⟩
    · have he : (x == y) = true := by
        rw [bytesLt_tri x y h1 h2]; simp
      (repeat first | (apply wr_move; exact rfl; with_reducible (conv => enter [6, 3]; whnf)) | (apply wr_assign; exact rfl; with_reducible (conv => enter [6, 3]; whnf)) | apply wr_end | apply wc_seq | apply wc_region | apply wc_skip | (apply wc_false; exact rfl))
      refine wr_strcmp (a := x) (b := y) (c := false) rfl rfl rfl (.inl ⟨rfl, by rw [Go.Proofs.bytesLess_eq, decide_eq_false h1]⟩) ?_
      (repeat first | (apply wr_move; exact rfl; with_reducible (conv => enter [6, 3]; whnf)) | apply wr_end | apply wc_seq | apply wc_region | apply wc_skip | (apply wc_false; exact rfl))
      refine wr_strcmp (a := x) (b := y) (c := false) rfl rfl rfl (.inr (.inr (.inl ⟨rfl, by rw [he]; simp⟩))) ?_
      (repeat first | (apply wr_assign; exact rfl; with_reducible (conv => enter [6, 3]; whnf)) | apply wr_end | apply wc_seq | apply wc_region | apply wc_skip | (apply wc_false; exact rfl) | (apply wc_ret; try simp only [thenE, inBlockE, bodyQ]))
      exact leave1 (v := .int .i64 0) rfl rfl ⟨by unfold cmpS; rw [if_neg h1, if_neg h2], by trivial⟩
set_option maxRecDepth 100000 in
theorem or2_ca (x y : Int) (b : Nat) (T : TypeId) (fr : Nat × Nat) (w : World) (hb : w.heap[b]? = some (.cells #[.int .i64 x, .int .i64 y] T fr)) :
    Ca Tryz.prog 45 #[.slice (some ⟨b, 0, none⟩) 2 2] w fun v w' => v = .int .i64 (if x ≠ 0 then x else y) ∧ w' = w := by
  refine ca_of_body (args := [.slice (some ⟨b, 0, none⟩) 2 2]) Tryz.func45 rfl (by kernel_rfl) ?_
  (repeat first | (apply wr_move; exact rfl; with_reducible (conv => enter [6, 3]; whnf)) | (apply wr_assign; exact rfl; with_reducible (conv => enter [6, 3]; whnf)) | apply wr_end | apply wc_seq | apply wc_region | apply wc_block | (apply wr_len_slice; iterate 2 exact rfl))
  refine wc_loopL (α := Nat) (fun i => [(3, .int .i64 0), (6, .slice (some ⟨b, 0, none⟩) 2 2), (7, .int .i64 2), (8, .int .i64 (i : Int))]) (fun i ds w' => ds = [] ∧ w' = w ∧ i ≤ 2 ∧ (1 ≤ i → x = 0) ∧ (2 ≤ i → y = 0)) (fun i => 2 - i) 0 ⟨rfl, rfl, by omega, by omega, by omega⟩ ⟨rfl, rfl, rfl, rfl, trivial⟩ ?_
  rintro i ds f0 w2 ⟨rfl, rfl, hi, hx, hy⟩
  match i, hi with
  | 0, _ =>
    (repeat first | apply wr_end | apply wc_seq | apply wc_region | apply wc_skip | apply wc_block | (apply wr_cmp; (iterate 3 exact rfl); exact cmpT (by dsimp only [cmpP]; first | done | omega)) | (apply wc_true; exact rfl))
    refine wr_indexAddr (i := 0) rfl rfl rfl (by decide) ?_
    by_cases h : x = 0
    · subst h
      (repeat first | (apply wr_move; exact rfl; with_reducible (conv => enter [6, 3]; whnf)) | (apply wr_assign; exact rfl; with_reducible (conv => enter [6, 3]; whnf)) | apply wr_end | apply wc_seq | apply wc_region | apply wc_skip | (apply wr_load; (iterate 3 exact rfl); (focus repeat first | with_reducible assumption | exact heap_alloc_same _ _ | exact World.putObj_heap_same (by first | omega | (simp only [World.size_alloc, World.putObj_size, ne_eq]; omega)) | ((first | refine hAl ?_ ?_ | refine hPu ?_ ?_); focus first | omega | (simp only [World.size_alloc, World.putObj_size, ne_eq]; omega))); exact rfl; conv => enter [6, 3]; whnf) | (apply wr_cmp; (iterate 3 exact rfl); exact cmpF (by dsimp only [cmpN]; first | done | omega)) | (apply wr_add; (iterate 3 exact rfl); exact w_fit (by dsimp only [kIn]; first | done | omega)) | (apply wc_false; exact rfl))
      refine ⟨1, by omega, ⟨by trivial, by trivial, by omega, fun _ => rfl, by omega⟩, rfl, rfl, rfl, rfl, trivial⟩
    · (repeat first | (apply wr_move; exact rfl; with_reducible (conv => enter [6, 3]; whnf)) | (apply wr_assign; exact rfl; with_reducible (conv => enter [6, 3]; whnf)) | apply wr_end | apply wc_seq | apply wc_region | (apply wr_load; (iterate 3 exact rfl); (focus repeat first | with_reducible assumption | exact heap_alloc_same _ _ | exact World.putObj_heap_same (by first | omega | (simp only [World.size_alloc, World.putObj_size, ne_eq]; omega)) | ((first | refine hAl ?_ ?_ | refine hPu ?_ ?_); focus first | omega | (simp only [World.size_alloc, World.putObj_size, ne_eq]; omega))); exact rfl; conv => enter [6, 3]; whnf) | (apply wr_cmp; (iterate 3 exact rfl); exact cmpT (by dsimp only [cmpP]; first | done | omega)) | (apply wc_true; exact rfl) | (apply wc_ret; try simp only [thenE, inBlockE, bodyQ]))
      exact leave1 (v := .int .i64 x) rfl rfl ⟨by rw [if_pos h], by trivial⟩
  | 1, _ =>
    have hx0 := hx (by omega)
    (repeat first | apply wr_end | apply wc_seq | apply wc_region | apply wc_skip | apply wc_block | (apply wr_cmp; (iterate 3 exact rfl); exact cmpT (by dsimp only [cmpP]; first | done | omega)) | (apply wc_true; exact rfl))
    refine wr_indexAddr (i := 1) rfl rfl rfl (by decide) ?_
    by_cases h : y = 0
    · subst h
      (repeat first | (apply wr_move; exact rfl; with_reducible (conv => enter [6, 3]; whnf)) | (apply wr_assign; exact rfl; with_reducible (conv => enter [6, 3]; whnf)) | apply wr_end | apply wc_seq | apply wc_region | apply wc_skip | (apply wr_load; (iterate 3 exact rfl); (focus repeat first | with_reducible assumption | exact heap_alloc_same _ _ | exact World.putObj_heap_same (by first | omega | (simp only [World.size_alloc, World.putObj_size, ne_eq]; omega)) | ((first | refine hAl ?_ ?_ | refine hPu ?_ ?_); focus first | omega | (simp only [World.size_alloc, World.putObj_size, ne_eq]; omega))); exact rfl; conv => enter [6, 3]; whnf) | (apply wr_cmp; (iterate 3 exact rfl); exact cmpF (by dsimp only [cmpN]; first | done | omega)) | (apply wr_add; (iterate 3 exact rfl); exact w_fit (by dsimp only [kIn]; first | done | omega)) | (apply wc_false; exact rfl))
      refine ⟨2, by omega, ⟨by trivial, by trivial, by omega, fun _ => hx0, fun _ => rfl⟩, rfl, rfl, rfl, rfl, trivial⟩
    · (repeat first | (apply wr_move; exact rfl; with_reducible (conv => enter [6, 3]; whnf)) | (apply wr_assign; exact rfl; with_reducible (conv => enter [6, 3]; whnf)) | apply wr_end | apply wc_seq | apply wc_region | (apply wr_load; (iterate 3 exact rfl); (focus repeat first | with_reducible assumption | exact heap_alloc_same _ _ | exact World.putObj_heap_same (by first | omega | (simp only [World.size_alloc, World.putObj_size, ne_eq]; omega)) | ((first | refine hAl ?_ ?_ | refine hPu ?_ ?_); focus first | omega | (simp only [World.size_alloc, World.putObj_size, ne_eq]; omega))); exact rfl; conv => enter [6, 3]; whnf) | (apply wr_cmp; (iterate 3 exact rfl); exact cmpT (by dsimp only [cmpP]; first | done | omega)) | (apply wc_true; exact rfl) | (apply wc_ret; try simp only [thenE, inBlockE, bodyQ]))
      exact leave1 (v := .int .i64 y) rfl rfl ⟨by rw [if_neg (by omega)], by trivial⟩
  | 2, _ =>
    have hx0 := hx (by omega)
    have hy0 := hy (by omega)
    (repeat first | (apply wr_move; exact rfl; with_reducible (conv => enter [6, 3]; whnf)) | (apply wr_assign; exact rfl; with_reducible (conv => enter [6, 3]; whnf)) | apply wr_end | apply wc_seq | apply wc_region | (apply wr_cmp; (iterate 3 exact rfl); exact cmpF (by dsimp only [cmpN]; first | done | omega)) | (apply wc_false; exact rfl) | (apply wc_exit; try simp only [thenE, inBlockE, bodyQ, ↓reduceIte, Nat.reduceEqDiff]) | (apply wc_ret; try simp only [thenE, inBlockE, bodyQ]))
    exact leave1 (v := .int .i64 0) rfl rfl ⟨by rw [if_neg (by omega), hy0], by trivial⟩
set_option maxRecDepth 100000 in
set_option maxHeartbeats 2000000 in
theorem order_ca (a b : KY) (w : World) : Ca Tryz.prog 26 #[encK a, encK b] w fun v w' => v = .int .i64 (ordK a b) ∧ Keeps NoB w w' := by
  refine ca_of_body (args := [encK a, encK b]) Tryz.func26 rfl (by kernel_rfl) ?_
  apply wc_seq
  apply wc_region
  refine wr_box (v := .agg #[.int .i64 a.1, S a.2]) rfl rfl ?_
  refine wr_name ?_
  intro w1 hw1
  obtain ⟨b1, hb1⟩ : ∃ b1, b1 = w.heap.size := ⟨_, rfl⟩
  have hk1 : Keeps NoB w w1 := by rw [hw1]; exact (Keeps.refl NoB w).alloc _
  have hc1 : w1.heap[b1]? = some (.cells #[.int .i64 a.1, S a.2] 36 (0, 0)) := by rw [hw1, hb1]; exact heap_alloc_same _ _
  rw [← hb1]
  clear hw1
  refine wr_box (v := .agg #[.int .i64 b.1, S b.2]) rfl rfl ?_
  refine wr_name ?_
  intro w2 hw2
  obtain ⟨b2, hb2⟩ : ∃ b2, b2 = w1.heap.size := ⟨_, rfl⟩
  have hk2 : Keeps NoB w1 w2 := by rw [hw2]; exact (Keeps.refl NoB w1).alloc _
  have hc2 : w2.heap[b2]? = some (.cells #[.int .i64 b.1, S b.2] 36 (0, 0)) := by rw [hw2, hb2]; exact heap_alloc_same _ _
  rw [← hb2]
  clear hw2
  have hc12 := hk2.heap hc1 (fun h => h)
  have hk0 : ∀ {w'}, Keeps NoB w2.drew w' → Keeps NoB w2 w' := fun hk => (Keeps.refl NoB w2).drew.trans hk
  (repeat first | (apply wr_assign; exact rfl; with_reducible (conv => enter [6, 3]; whnf)) | apply wr_end | apply wc_seq)
  refine wc_drawP (l := _) 12 _ (by kernel_rfl) (by kernel_rfl) rfl (by kernel_rfl) (by kernel_rfl) (by decide) ?_
  apply chP_pure
  focus
    intro xx w' hk hF
    refine wr_fieldAddr rfl rfl ?_
    apply wr_nil
    exact ⟨rfl, Keeps.refl _ _⟩
  focus (intro xx yy h; rfl)
  focus kernel_rfl
  apply chP_pure
  focus
    intro xx w' hk hF
    refine wr_load (v := .int .i64 a.1) rfl rfl rfl ((hk0 hk).heap hc12 (fun h => h)) rfl ?_
    apply wr_nil
    exact ⟨rfl, Keeps.refl _ _⟩
  focus (intro xx yy h; rfl)
  focus kernel_rfl
  apply chP_pure
  focus
    intro xx w' hk hF
    refine wr_fieldAddr rfl rfl ?_
    apply wr_nil
    exact ⟨rfl, Keeps.refl _ _⟩
  focus (intro xx yy h; rfl)
  focus kernel_rfl
  apply chP_pure
  focus
    intro xx w' hk hF
    refine wr_load (v := .int .i64 b.1) rfl rfl rfl ((hk0 hk).heap hc2 (fun h => h)) rfl ?_
    apply wr_nil
    exact ⟨rfl, Keeps.refl _ _⟩
  focus (intro xx yy h; rfl)
  focus kernel_rfl
  apply chP_pure
  focus
    intro xx w' hk hF
    refine wr_call (vs := [.int .i64 a.1, .int .i64 b.1]) rfl (cmpI_ca a.1 b.1 w') rfl ?_
    rintro v w'' ⟨rfl, rfl⟩
    apply wr_nil
    exact ⟨rfl, Keeps.refl _ _⟩
  focus (intro xx yy h; rfl)
  focus kernel_rfl
  apply chP_pure
  focus
    intro xx w' hk hF
    refine wr_fieldAddr rfl rfl ?_
    apply wr_nil
    exact ⟨rfl, Keeps.refl _ _⟩
  focus (intro xx yy h; rfl)
  focus kernel_rfl
  apply chP_pure
  focus
    intro xx w' hk hF
    refine wr_load (v := S a.2) rfl rfl rfl ((hk0 hk).heap hc12 (fun h => h)) rfl ?_
    apply wr_nil
    exact ⟨rfl, Keeps.refl _ _⟩
  focus (intro xx yy h; rfl)
  focus kernel_rfl
  apply chP_pure
  focus
    intro xx w' hk hF
    refine wr_fieldAddr rfl rfl ?_
    apply wr_nil
    exact ⟨rfl, Keeps.refl _ _⟩
  focus (intro xx yy h; rfl)
  focus kernel_rfl
  apply chP_pure
  focus
    intro xx w' hk hF
    refine wr_load (v := S b.2) rfl rfl rfl ((hk0 hk).heap hc2 (fun h => h)) rfl ?_
    apply wr_nil
    exact ⟨rfl, Keeps.refl _ _⟩
  focus (intro xx yy h; rfl)
  focus kernel_rfl
  apply chP_pure
  focus
    intro xx w' hk hF
    refine wr_call (vs := [S a.2, S b.2]) rfl (cmpS_ca a.2 b.2 w') rfl ?_
    rintro v w'' ⟨rfl, rfl⟩
    apply wr_nil
    exact ⟨rfl, Keeps.refl _ _⟩
  focus (intro xx yy h; rfl)
  focus kernel_rfl
  refine chP_fact (fun y => .slice (some ⟨blkOf y, 0, none⟩) 2 2) (fun y w' => w'.heap[blkOf y]? = some (.cells #[.int .i64 (cmpI a.1 b.1), .int .i64 (cmpS a.2 b.2)] 3 (0, 0))) (fun y w' w'' h k => k.heap h (fun h => h)) ?_ ?_
  focus
    intro xx w' hk hF
    refine wr_buildSlice (vs := [.int .i64 (cmpI a.1 b.1), .int .i64 (cmpS a.2 b.2)]) rfl rfl (by intro v hv; simp at hv; rcases hv with rfl | rfl <;> rfl) rfl (by decide) (by decide) (by decide) ?_
    apply wr_nil
    exact ⟨.pointer (some ⟨w'.heap.size, 0, none⟩), rfl, heap_alloc_same _ _, (Keeps.refl _ _).alloc _⟩
  apply chP_pure
  focus
    intro xx w' hk hF
    refine wr_call (vs := [.slice (some ⟨blkOf (xx 10), 0, none⟩) 2 2]) rfl (or2_ca (cmpI a.1 b.1) (cmpS a.2 b.2) (blkOf (xx 10)) _ _ w' (hF 10 (by kernel_rfl))) rfl ?_
    rintro v w'' ⟨rfl, rfl⟩
    apply wr_nil
    exact ⟨rfl, Keeps.refl _ _⟩
  focus (intro xx yy h; rfl)
  focus kernel_rfl
  refine chP_nil ?_
  intro xx w3 hk3' hF
  have hk3 := hk0 hk3'
  (repeat first | (apply wr_assign; exact rfl; with_reducible (conv => enter [6, 3]; whnf)) | apply wr_end | (apply wc_ret; try simp only [thenE, inBlockE, bodyQ]))
  exact leave1 (v := .int .i64 (ordK a b)) rfl rfl ⟨rfl, (hk1.trans hk2).trans hk3⟩
end Go.Proofs.YtjaojihogmnjhaaGreatDoor
