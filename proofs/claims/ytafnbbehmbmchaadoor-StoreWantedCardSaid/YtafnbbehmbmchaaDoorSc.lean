/- The store: Wanted, Watch, Cut, Reset. -/
import Derived.Test.YtafnbbehmbmchaaDoorSb
namespace Go.Proofs.YtafnbbehmbmchaaDoor
open Go Go.V Go.RowKit
set_option linter.unusedVariables false
set_option linter.unusedSimpArgs false

section
variable {P : Program} {ops : Array Oper} {Q : Post} {ds : List Deferred} {f : Env} {w w' : World} {rest : List Oper}
variable {d : Option Nat} {ty : TypeId} {pos : String} {af : Array Edge} {g : Option (Nat × Bool)}
theorem wr_neg {t : TypeId} {x : Operand} {k : IntKind} {a c : Int} (hw : wantedE ops f ⟨d, .unOp .neg t x, ty, pos, af, g⟩ = true) (hx : ev f x = .int k a) (hc : k.wrap (-a) = c) (kk : Wr P ops Q ds rest (setO f d (.int k c)) w) :
    Wr P ops Q ds (⟨d, .unOp .neg t x, ty, pos, af, g⟩ :: rest) f w := by
  subst hc
  exact wr_v (s := Op.unary .neg (ev f x)) hw rfl (by rw [hx]; simp [Op.unary, Op.intArith]) kk
end
def wantP (W : KY → Int) (k : KY) : Int := if keyOk k then (if k.2 = [42] then W k else W k + W (k.1, star)) else 0
set_option maxRecDepth 100000 in
set_option maxHeartbeats 2000000 in
theorem wanted_ca {sb kb wb : Nat} {room : Int} {grace : Nat} {K : KL} {W : KY → Int} {w : World} (h : St w sb kb wb room grace K W) (k : KY) (hkl : k.2.length ≤ 9223372036854775807) :
    Ca Tryd.prog 17 #[.pointer (some ⟨sb, 0, none⟩), encK k] w fun v w' => v = .int .i64 (wantP W k) ∧ Keeps NoB w w' := by
  refine ca_of_body (args := [.pointer (some ⟨sb, 0, none⟩), encK k]) Tryd.func17 rfl (by kernel_rfl) ?_
  apply wc_seq
  apply wc_region
  refine wr_box (v := .agg #[.int .i64 k.1, S k.2]) rfl rfl ?_
  refine wr_name ?_
  intro w1 hw1
  obtain ⟨b1, hb1⟩ : ∃ b1, b1 = w.heap.size := ⟨_, rfl⟩
  have hk1 : Keeps NoB w w1 := by rw [hw1]; exact (Keeps.refl NoB w).alloc _
  have hc1 : w1.heap[b1]? = some (.cells #[.int .i64 k.1, S k.2] 28 (0, 0)) := by rw [hw1, hb1]; exact heap_alloc_same _ _
  rw [← hb1]
  clear hw1
  (repeat first | (apply wr_assign; exact rfl; with_reducible (conv => enter [6, 3]; whnf)) | apply wr_end | apply wc_seq | apply wc_region | apply wc_block)
  refine wr_loadAll (cs := [.int .i64 k.1, S k.2]) rfl rfl rfl hc1 rfl ?_
  refine wr_call (vs := [encK k]) rfl (key_ca k w1 hkl) rfl ?_
  rintro v w2 ⟨rfl, hk2⟩
  have hkw2 := hk1.trans hk2
  have hc2 := hk2.heap hc1 (fun h => h)
  by_cases hok : keyOk k
  rotate_left
  · rw [decide_eq_false hok]
    (repeat first | (apply wr_assign; exact rfl; with_reducible (conv => enter [6, 3]; whnf)) | apply wr_end | apply wc_seq | apply wc_region | (apply wr_not; iterate 2 exact rfl) | (apply wc_true; exact rfl) | (apply wc_ret; try simp only [thenE, inBlockE, bodyQ]))
    exact leave1 (v := .int .i64 0) rfl rfl ⟨by unfold wantP; rw [if_neg hok], hkw2⟩
  rw [decide_eq_true hok]
  have h2 := (h.keep hkw2).drew
  have hs2 := h2.cells
  have hc2d : w2.drew.heap[b1]? = _ := hc2
  obtain ⟨M, hM, hW⟩ := h2.watch
  by_cases hst : k.2 = [42]
  · (repeat first | (apply wr_assign; exact rfl; with_reducible (conv => enter [6, 3]; whnf)) | apply wr_end | apply wc_seq | apply wc_region | (apply wr_fieldAddr; iterate 2 exact rfl) | (apply wr_not; iterate 2 exact rfl) | (apply wr_load; (iterate 3 exact rfl); (focus repeat first | with_reducible assumption | exact heap_alloc_same _ _ | exact World.putObj_heap_same (by first | omega | (simp only [World.size_alloc, World.putObj_size, ne_eq]; omega)) | ((first | refine hAl ?_ ?_ | refine hPu ?_ ?_); focus first | omega | (simp only [World.size_alloc, World.putObj_size, ne_eq]; omega))); exact rfl; conv => enter [6, 3]; whnf) | (apply wr_streqc; (iterate 3 exact rfl); (first | exact decide_eq_true (by with_reducible assumption) | exact decide_eq_false (by with_reducible assumption) | exact decide_eq_true rfl | exact rfl)) | (apply wc_true; exact rfl) | (apply wc_false; exact rfl))
    refine wc_drawS (l := _) (S := fun w' => w' = w2.drew) (by kernel_rfl) (by kernel_rfl) rfl ?_
    repeat
      apply ch_step
      focus
        intro w' hS
        subst hS
        (repeat first | (apply wr_move; exact rfl; with_reducible (conv => enter [6, 3]; whnf)) | (apply wr_fieldAddr; iterate 2 exact rfl) | (apply wr_nilCheck; iterate 2 exact rfl) | (apply wr_load; (iterate 3 exact rfl); (focus repeat first | with_reducible assumption | exact heap_alloc_same _ _ | exact World.putObj_heap_same (by first | omega | (simp only [World.size_alloc, World.putObj_size, ne_eq]; omega)) | ((first | refine hAl ?_ ?_ | refine hPu ?_ ?_); focus first | omega | (simp only [World.size_alloc, World.putObj_size, ne_eq]; omega))); exact rfl; conv => enter [6, 3]; whnf) | (apply wr_nil; try simp only [thenE, inBlockE, bodyQ]))
        exact ⟨rfl, by trivial⟩
    apply ch_step
    focus
      intro w' hS
      subst hS
      refine wr_loadAll (cs := [.int .i64 k.1, S k.2]) rfl rfl rfl hc2 rfl ?_
      apply wr_nil
      exact ⟨rfl, rfl⟩
    apply ch_step
    focus
      intro w' hS
      subst hS
      refine wr_lookup (l := M) (a := k) rfl rfl hM rfl ?_
      apply wr_nil
      exact ⟨rfl, rfl⟩
    rw [hW k]
    repeat
      apply ch_step
      focus
        intro w' hS
        subst hS
        (repeat first | (apply wr_assign; exact rfl; with_reducible (conv => enter [6, 3]; whnf)) | (apply wr_nil; try simp only [thenE, inBlockE, bodyQ]))
        exact ⟨rfl, by trivial⟩
    refine ch_nil ?_
    intro w' hS
    subst hS
    (repeat first | (apply wc_ret; try simp only [thenE, inBlockE, bodyQ]))
    exact leave1 (v := .int .i64 (W k)) rfl rfl ⟨by unfold wantP; rw [if_pos hok, if_pos hst], hkw2.drew⟩
  · have hb1' := h2.wB k
    have hb2' := h2.wB (k.1, star)
    (repeat first | (apply wr_assign; exact rfl; with_reducible (conv => enter [6, 3]; whnf)) | apply wr_end | apply wc_seq | apply wc_region | apply wc_skip | (apply wr_fieldAddr; iterate 2 exact rfl) | (apply wr_not; iterate 2 exact rfl) | (apply wr_load; (iterate 3 exact rfl); (focus repeat first | with_reducible assumption | exact heap_alloc_same _ _ | exact World.putObj_heap_same (by first | omega | (simp only [World.size_alloc, World.putObj_size, ne_eq]; omega)) | ((first | refine hAl ?_ ?_ | refine hPu ?_ ?_); focus first | omega | (simp only [World.size_alloc, World.putObj_size, ne_eq]; omega))); exact rfl; conv => enter [6, 3]; whnf) | (apply wr_streqc; (iterate 3 exact rfl); (first | exact decide_eq_true (by with_reducible assumption) | exact decide_eq_false (by with_reducible assumption) | exact decide_eq_true rfl | exact rfl)) | (apply wc_false; exact rfl))
    refine wc_drawS (l := _) (S := fun w' => w' = w2.drew) (by kernel_rfl) (by kernel_rfl) rfl ?_
    repeat
      apply ch_step
      focus
        intro w' hS
        subst hS
        (repeat first | (apply wr_move; exact rfl; with_reducible (conv => enter [6, 3]; whnf)) | (apply wr_fieldAddr; iterate 2 exact rfl) | (apply wr_nilCheck; iterate 2 exact rfl) | (apply wr_load; (iterate 3 exact rfl); (focus repeat first | with_reducible assumption | exact heap_alloc_same _ _ | exact World.putObj_heap_same (by first | omega | (simp only [World.size_alloc, World.putObj_size, ne_eq]; omega)) | ((first | refine hAl ?_ ?_ | refine hPu ?_ ?_); focus first | omega | (simp only [World.size_alloc, World.putObj_size, ne_eq]; omega))); exact rfl; conv => enter [6, 3]; whnf) | (apply wr_nil; try simp only [thenE, inBlockE, bodyQ]))
        exact ⟨rfl, by trivial⟩
    apply ch_step
    focus
      intro w' hS
      subst hS
      refine wr_loadAll (cs := [.int .i64 k.1, S k.2]) rfl rfl rfl hc2 rfl ?_
      apply wr_nil
      exact ⟨rfl, rfl⟩
    apply ch_step
    focus
      intro w' hS
      subst hS
      refine wr_lookup (l := M) (a := k) rfl rfl hM rfl ?_
      apply wr_nil
      exact ⟨rfl, rfl⟩
    rw [hW k]
    repeat
      apply ch_step
      focus
        intro w' hS
        subst hS
        (repeat first | (apply wr_move; exact rfl; with_reducible (conv => enter [6, 3]; whnf)) | (apply wr_fieldAddr; iterate 2 exact rfl) | (apply wr_nilCheck; iterate 2 exact rfl) | (apply wr_load; (iterate 3 exact rfl); (focus repeat first | with_reducible assumption | exact heap_alloc_same _ _ | exact World.putObj_heap_same (by first | omega | (simp only [World.size_alloc, World.putObj_size, ne_eq]; omega)) | ((first | refine hAl ?_ ?_ | refine hPu ?_ ?_); focus first | omega | (simp only [World.size_alloc, World.putObj_size, ne_eq]; omega))); exact rfl; conv => enter [6, 3]; whnf) | (apply wr_nil; try simp only [thenE, inBlockE, bodyQ]))
        exact ⟨rfl, by trivial⟩
    apply ch_step
    focus
      intro w' hS
      subst hS
      refine wr_build (ps := [(0, .int .i64 k.1), (1, S star)]) (cs := [.int .i64 k.1, S star]) rfl rfl rfl rfl ?_
      apply wr_nil
      exact ⟨rfl, rfl⟩
    apply ch_step
    focus
      intro w' hS
      subst hS
      refine wr_lookup (l := M) (a := (k.1, star)) rfl rfl hM rfl ?_
      apply wr_nil
      exact ⟨rfl, rfl⟩
    rw [hW (k.1, star)]
    repeat
      apply ch_step
      focus
        intro w' hS
        subst hS
        (repeat first | (apply wr_assign; exact rfl; with_reducible (conv => enter [6, 3]; whnf)) | (apply wr_add; (iterate 3 exact rfl); exact w_fit (by dsimp only [kIn]; first | done | omega)) | (apply wr_nil; try simp only [thenE, inBlockE, bodyQ]))
        exact ⟨rfl, by trivial⟩
    refine ch_nil ?_
    intro w' hS
    subst hS
    (repeat first | (apply wc_ret; try simp only [thenE, inBlockE, bodyQ]))
    exact leave1 (v := .int .i64 (W k + W (k.1, star))) rfl rfl ⟨by unfold wantP; rw [if_pos hok, if_neg hst], hkw2.drew⟩
theorem getM_putK (M : List (KY × Value)) (n x : KY) (v : Value) : getM (putM M n v) x = if x = n then some v else getM M x := by
  have h1 := getL_put M n x v
  have h2 : putL M n v = putM M n v := by unfold putL putM; congr
  rw [h2] at h1
  exact h1
def setW (W : KY → Int) (k : KY) (n : Int) : KY → Int := fun x => if x = k then n else W x
def watchOk (W : KY → Int) (k : KY) (by' : Int) : Prop := keyOk k ∧ -(W k) ≤ by' ∧ by' ≤ 2147483647 - W k
instance (W : KY → Int) (k : KY) (by' : Int) : Decidable (watchOk W k by') := by unfold watchOk; infer_instance
set_option maxRecDepth 100000 in
set_option maxHeartbeats 2000000 in
theorem watch_ca {sb kb wb : Nat} {room : Int} {grace : Nat} {K : KL} {W : KY → Int} {w : World} (h : St w sb kb wb room grace K W) (k : KY) (hkl : k.2.length ≤ 9223372036854775807) (n : Int) (hn : -9223372036854775808 ≤ n ∧ n ≤ 9223372036854775807) :
    Ca Tryd.prog 14 #[.pointer (some ⟨sb, 0, none⟩), encK k, .int .i64 n] w fun v w' => (watchOk W k n ∧ v = .int .i64 0 ∧ St w' sb kb wb room grace K (setW W k (W k + n)) ∧ Keeps (· = wb) w w') ∨ (¬ watchOk W k n ∧ v = .int .i64 1 ∧ Keeps NoB w w') := by
  refine ca_of_body (args := [.pointer (some ⟨sb, 0, none⟩), encK k, .int .i64 n]) Tryd.func14 rfl (by kernel_rfl) ?_
  apply wc_seq
  apply wc_region
  refine wr_box (v := .agg #[.int .i64 k.1, S k.2]) rfl rfl ?_
  refine wr_name ?_
  intro w1 hw1
  obtain ⟨b1, hb1⟩ : ∃ b1, b1 = w.heap.size := ⟨_, rfl⟩
  have hk1 : Keeps NoB w w1 := by rw [hw1]; exact (Keeps.refl NoB w).alloc _
  have hc1 : w1.heap[b1]? = some (.cells #[.int .i64 k.1, S k.2] 28 (0, 0)) := by rw [hw1, hb1]; exact heap_alloc_same _ _
  rw [← hb1]
  clear hw1
  have h1 := (h.keep hk1).drew
  have hs1 := h1.cells
  have hc1d : w1.drew.heap[b1]? = _ := hc1
  obtain ⟨M1, hM1, hW1⟩ := h1.watch
  have hb1' := h.wB k
  (repeat first | (apply wr_assign; exact rfl; with_reducible (conv => enter [6, 3]; whnf)) | apply wr_end | apply wc_seq)
  refine wc_drawS (l := _) (S := fun w' => w' = w1.drew) (by kernel_rfl) (by kernel_rfl) rfl ?_
  repeat
    apply ch_step
    focus
      intro w' hS
      subst hS
      (repeat first | (apply wr_move; exact rfl; with_reducible (conv => enter [6, 3]; whnf)) | (apply wr_fieldAddr; iterate 2 exact rfl) | (apply wr_nilCheck; iterate 2 exact rfl) | (apply wr_load; (iterate 3 exact rfl); (focus repeat first | with_reducible assumption | exact heap_alloc_same _ _ | exact World.putObj_heap_same (by first | omega | (simp only [World.size_alloc, World.putObj_size, ne_eq]; omega)) | ((first | refine hAl ?_ ?_ | refine hPu ?_ ?_); focus first | omega | (simp only [World.size_alloc, World.putObj_size, ne_eq]; omega))); exact rfl; conv => enter [6, 3]; whnf) | (apply wr_nil; try simp only [thenE, inBlockE, bodyQ]))
      exact ⟨rfl, by trivial⟩
  apply ch_step
  focus
    intro w' hS
    subst hS
    refine wr_loadAll (cs := [.int .i64 k.1, S k.2]) rfl rfl rfl hc1d rfl ?_
    apply wr_nil
    exact ⟨rfl, rfl⟩
  apply ch_step
  focus
    intro w' hS
    subst hS
    refine wr_lookup (l := M1) (a := k) rfl rfl hM1 rfl ?_
    apply wr_nil
    exact ⟨rfl, rfl⟩
  rw [hW1 k]
  repeat
    apply ch_step
    focus
      intro w' hS
      subst hS
      (repeat first | (apply wr_assign; exact rfl; with_reducible (conv => enter [6, 3]; whnf)) | (apply wr_nil; try simp only [thenE, inBlockE, bodyQ]))
      exact ⟨rfl, by trivial⟩
  refine ch_nil ?_
  intro w' hS
  subst hS
  obtain ⟨w2, hw2⟩ : ∃ w2, w2 = w1.drew := ⟨_, rfl⟩
  have hk2 : Keeps NoB w w2 := by rw [hw2]; exact hk1.drew
  rw [← hw2] at hc1d ⊢
  clear hw2
  (repeat first | apply wc_seq | apply wc_region)
  refine wr_loadAll (cs := [.int .i64 k.1, S k.2]) rfl rfl rfl hc1d rfl ?_
  refine wr_call (vs := [encK k]) rfl (key_ca k w2 hkl) rfl ?_
  rintro v w3 ⟨rfl, hk3⟩
  have hk23 := hk2.trans hk3
  have hc3 := hk3.heap hc1d (fun h => h)
  by_cases hok : keyOk k
  rotate_left
  · rw [decide_eq_false hok]
    (repeat first | (apply wr_move; exact rfl; with_reducible (conv => enter [6, 3]; whnf)) | (apply wr_assign; exact rfl; with_reducible (conv => enter [6, 3]; whnf)) | apply wr_end | apply wc_seq | apply wc_region | (apply wr_not; iterate 2 exact rfl) | (apply wr_pick (t := true); (iterate 2 exact rfl); with_reducible (conv => enter [6, 3]; whnf)) | (apply wc_true; exact rfl) | (apply wc_ret; try simp only [thenE, inBlockE, bodyQ]) | (apply wr_skip; exact rfl))
    exact leave1 (v := .int .i64 1) rfl rfl (.inr ⟨fun h => hok h.1, rfl, hk23⟩)
  rw [decide_eq_true hok]
  by_cases hlo : -(W k) ≤ n
  rotate_left
  · (repeat first | (apply wr_move; exact rfl; with_reducible (conv => enter [6, 3]; whnf)) | (apply wr_not; iterate 2 exact rfl))
    refine wr_neg (c := -(W k)) rfl rfl (w_i64 (by omega)) ?_
    (repeat first | (apply wr_move; exact rfl; with_reducible (conv => enter [6, 3]; whnf)) | (apply wr_assign; exact rfl; with_reducible (conv => enter [6, 3]; whnf)) | apply wr_end | apply wc_seq | apply wc_region | (apply wr_cmp; (iterate 3 exact rfl); exact cmpT (by dsimp only [cmpP]; first | done | omega)) | (apply wr_pick (t := true); (iterate 2 exact rfl); with_reducible (conv => enter [6, 3]; whnf)) | (apply wr_pick (t := false); (iterate 2 exact rfl); with_reducible (conv => enter [6, 3]; whnf)) | (apply wc_true; exact rfl) | (apply wc_ret; try simp only [thenE, inBlockE, bodyQ]) | (apply wr_skip; exact rfl))
    exact leave1 (v := .int .i64 1) rfl rfl (.inr ⟨fun h => hlo h.2.1, rfl, hk23⟩)
  by_cases hhi : n ≤ 2147483647 - W k
  rotate_left
  · (repeat first | (apply wr_move; exact rfl; with_reducible (conv => enter [6, 3]; whnf)) | (apply wr_not; iterate 2 exact rfl))
    refine wr_neg (c := -(W k)) rfl rfl (w_i64 (by omega)) ?_
    (repeat first | (apply wr_move; exact rfl; with_reducible (conv => enter [6, 3]; whnf)) | (apply wr_assign; exact rfl; with_reducible (conv => enter [6, 3]; whnf)) | apply wr_end | apply wc_seq | apply wc_region | (apply wr_cmp; (iterate 3 exact rfl); exact cmpT (by dsimp only [cmpP]; first | done | omega)) | (apply wr_cmp; (iterate 3 exact rfl); exact cmpF (by dsimp only [cmpN]; first | done | omega)) | (apply wr_pick (t := false); (iterate 2 exact rfl); with_reducible (conv => enter [6, 3]; whnf)) | (apply wr_sub; (iterate 3 exact rfl); exact w_fit (by dsimp only [kIn]; first | done | omega)) | (apply wc_true; exact rfl) | (apply wc_ret; try simp only [thenE, inBlockE, bodyQ]))
    exact leave1 (v := .int .i64 1) rfl rfl (.inr ⟨fun h => hhi h.2.2, rfl, hk23⟩)
  (repeat first | (apply wr_move; exact rfl; with_reducible (conv => enter [6, 3]; whnf)) | (apply wr_not; iterate 2 exact rfl))
  refine wr_neg (c := -(W k)) rfl rfl (w_i64 (by omega)) ?_
  have hk0 : ∀ {w'}, Keeps NoB w3.drew w' → Keeps NoB w3 w' := fun hk => (Keeps.refl NoB w3).drew.trans hk
  have h3 := h.keep hk23
  have hs3 := h3.cells
  (repeat first | (apply wr_move; exact rfl; with_reducible (conv => enter [6, 3]; whnf)) | apply wr_end | apply wc_seq | apply wc_skip | (apply wr_cmp; (iterate 3 exact rfl); exact cmpF (by dsimp only [cmpN]; first | done | omega)) | (apply wr_pick (t := false); (iterate 2 exact rfl); with_reducible (conv => enter [6, 3]; whnf)) | (apply wr_sub; (iterate 3 exact rfl); exact w_fit (by dsimp only [kIn]; first | done | omega)) | (apply wc_false; exact rfl))
  refine wc_drawP (l := _) 8 _ (by kernel_rfl) (by kernel_rfl) rfl (by kernel_rfl) (by kernel_rfl) (by decide) ?_
  apply chP_pure
  focus
    intro xx w' hk hF
    apply wr_move; exact rfl; with_reducible (conv => enter [6, 3]; whnf)
    apply wr_nil
    exact ⟨rfl, Keeps.refl _ _⟩
  focus (intro xx yy h; rfl)
  focus kernel_rfl
  apply chP_pure
  focus
    intro xx w' hk hF
    refine wr_nilCheck rfl rfl ?_
    apply wr_nil
    exact ⟨rfl, Keeps.refl _ _⟩
  focus (intro xx yy h; rfl)
  focus kernel_rfl
  apply chP_pure
  focus
    intro xx w' hk hF
    refine wr_fieldAddr rfl rfl ?_
    apply wr_nil
    exact ⟨rfl, Keeps.refl _ _⟩
  focus (intro xx yy h; rfl)
  focus kernel_rfl
  apply chP_pure
  focus
    intro xx w' hk hF
    refine wr_load (v := .map (some wb)) rfl rfl rfl ((hk0 hk).heap hs3 (fun h => h)) rfl ?_
    apply wr_nil
    exact ⟨rfl, Keeps.refl _ _⟩
  focus (intro xx yy h; rfl)
  focus kernel_rfl
  apply chP_pure
  focus
    intro xx w' hk hF
    refine wr_loadAll (cs := [.int .i64 k.1, S k.2]) rfl rfl rfl ((hk0 hk).heap hc3 (fun h => h)) rfl ?_
    apply wr_nil
    exact ⟨rfl, Keeps.refl _ _⟩
  focus (intro xx yy h; rfl)
  focus kernel_rfl
  apply chP_pure
  focus
    intro xx w' hk hF
    apply wr_move; exact rfl; with_reducible (conv => enter [6, 3]; whnf)
    apply wr_nil
    exact ⟨rfl, Keeps.refl _ _⟩
  focus (intro xx yy h; rfl)
  focus kernel_rfl
  apply chP_pure
  focus
    intro xx w' hk hF
    apply wr_move; exact rfl; with_reducible (conv => enter [6, 3]; whnf)
    apply wr_nil
    exact ⟨rfl, Keeps.refl _ _⟩
  focus (intro xx yy h; rfl)
  focus kernel_rfl
  apply chP_pure
  focus
    intro xx w' hk hF
    refine wr_add (c := W k + n) rfl rfl rfl (w_i64 (by omega)) ?_
    apply wr_nil
    exact ⟨rfl, Keeps.refl _ _⟩
  focus (intro xx yy h; rfl)
  focus kernel_rfl
  refine chP_nil ?_
  intro xx w4 hk4' hF
  have hk4 := hk0 hk4'
  have h4 := h3.keep hk4
  obtain ⟨M4, hM4, hW4⟩ := h4.watch
  refine wr_update (l := M4) (a := k) (v := .int .i64 (W k + n)) rfl rfl hM4 rfl rfl ?_
  intro w5 hM5 hk5
  (repeat first | (apply wr_assign; exact rfl; with_reducible (conv => enter [6, 3]; whnf)) | apply wr_end | apply wc_seq | apply wc_region | (apply wc_ret; try simp only [thenE, inBlockE, bodyQ]))
  refine leave1 (v := .int .i64 0) rfl rfl (.inl ⟨⟨hok, hlo, hhi⟩, rfl, ⟨hk5.heap h4.cells (fun e => ?_), h4.kept.keep hk5 (fun e => h4.ne e), ⟨_, hM5, fun x => ?_⟩, fun x hx => hk5.heap (h4.ents x hx) (fun e => ?_), h4.ne, fun x => ?_⟩, (hk23.trans hk4).upD.trans hk5⟩)
  · obtain ⟨es, c, hb, _⟩ := hM4
    rw [← e, h4.cells] at hb
    cases hb
  · rw [getM_putK]
    unfold setW
    by_cases hx : x = k
    · simp [hx]
    · simp only [hx, if_false]; exact hW4 x
  · obtain ⟨es, c, hb, _⟩ := hM4
    rw [← e, h4.ents x hx] at hb
    cases hb
  · unfold setW
    split
    · omega
    · exact h.wB x
end Go.Proofs.YtafnbbehmbmchaaDoor
