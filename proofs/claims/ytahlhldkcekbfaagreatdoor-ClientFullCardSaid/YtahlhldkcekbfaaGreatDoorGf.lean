/- message: named, star, RightResp of what lists nothing. -/
import Derived.Test.YtahlhldkcekbfaaGreatDoorGe
namespace Go.Proofs.YtahlhldkcekbfaaGreatDoor
open Go Go.V Go.RowKit
set_option linter.unusedVariables false
set_option linter.unusedSimpArgs false

theorem typedM_ca (k : Int) (w : World) : Ca Tryz.prog 49 #[.int .i64 k] w fun v w' => v = .bool (typedB k) ∧ w' = w := by
  refine ca_of_body (args := [.int .i64 k]) Tryz.func49 rfl (by kernel_rfl) ?_
  unfold typedB
  by_cases h1 : 1 ≤ k
  · by_cases h2 : k ≤ 5
    · rw [decide_eq_true ⟨h1, h2⟩]
      (repeat first | (apply wr_move; exact rfl; with_reducible (conv => enter [6, 3]; whnf)) | (apply wr_assign; exact rfl; with_reducible (conv => enter [6, 3]; whnf)) | apply wr_end | apply wc_seq | apply wc_region | (apply wr_cmp; (iterate 3 exact rfl); exact cmpT (by dsimp only [cmpP]; first | done | omega)) | (apply wr_pick (t := true); (iterate 2 exact rfl); with_reducible (conv => enter [6, 3]; whnf)) | (apply wc_ret; try simp only [thenE, inBlockE, bodyQ]))
      exact leave1 (v := .bool true) rfl rfl ⟨rfl, by trivial⟩
    · rw [decide_eq_false (fun h => h2 h.2)]
      (repeat first | (apply wr_move; exact rfl; with_reducible (conv => enter [6, 3]; whnf)) | (apply wr_assign; exact rfl; with_reducible (conv => enter [6, 3]; whnf)) | apply wr_end | apply wc_seq | apply wc_region | (apply wr_cmp; (iterate 3 exact rfl); exact cmpT (by dsimp only [cmpP]; first | done | omega)) | (apply wr_cmp; (iterate 3 exact rfl); exact cmpF (by dsimp only [cmpN]; first | done | omega)) | (apply wr_pick (t := true); (iterate 2 exact rfl); with_reducible (conv => enter [6, 3]; whnf)) | (apply wc_ret; try simp only [thenE, inBlockE, bodyQ]))
      exact leave1 (v := .bool false) rfl rfl ⟨rfl, by trivial⟩
  · rw [decide_eq_false (fun h => h1 h.1)]
    (repeat first | (apply wr_move; exact rfl; with_reducible (conv => enter [6, 3]; whnf)) | (apply wr_assign; exact rfl; with_reducible (conv => enter [6, 3]; whnf)) | apply wr_end | apply wc_seq | apply wc_region | (apply wr_cmp; (iterate 3 exact rfl); exact cmpF (by dsimp only [cmpN]; first | done | omega)) | (apply wr_pick (t := false); (iterate 2 exact rfl); with_reducible (conv => enter [6, 3]; whnf)) | (apply wc_ret; try simp only [thenE, inBlockE, bodyQ]) | (apply wr_skip; exact rfl))
    exact leave1 (v := .bool false) rfl rfl ⟨rfl, by trivial⟩
def starB (x : TT) : Bool := decide (x = [42]) || decide (nameOk x)
theorem star_ca (x : TT) (hx : x.length ≤ 9223372036854775807) (w : World) : Ca Tryz.prog 51 #[S x] w fun v w' => v = .bool (starB x) ∧ Keeps NoB w w' := by
  refine ca_of_body (args := [S x]) Tryz.func51 rfl (by kernel_rfl) ?_
  unfold starB
  by_cases h : x = [42]
  · subst h
    (repeat first | (apply wr_move; exact rfl; with_reducible (conv => enter [6, 3]; whnf)) | (apply wr_assign; exact rfl; with_reducible (conv => enter [6, 3]; whnf)) | apply wr_end | apply wc_seq | apply wc_region | (apply wr_pick (t := true); (iterate 2 exact rfl); with_reducible (conv => enter [6, 3]; whnf)) | (apply wr_streqc; (iterate 3 exact rfl); (first | exact decide_eq_true (by with_reducible assumption) | exact decide_eq_false (by with_reducible assumption) | exact decide_eq_true rfl | exact rfl)) | (apply wc_ret; try simp only [thenE, inBlockE, bodyQ]) | (apply wr_skip; exact rfl))
    exact leave1 (v := .bool true) rfl rfl ⟨rfl, Keeps.refl _ _⟩
  · rw [decide_eq_false h, Bool.false_or]
    (repeat first | (apply wr_move; exact rfl; with_reducible (conv => enter [6, 3]; whnf)) | (apply wr_assign; exact rfl; with_reducible (conv => enter [6, 3]; whnf)) | apply wr_end | apply wc_seq | apply wc_region | (apply wr_streqc; (iterate 3 exact rfl); (first | exact decide_eq_true (by with_reducible assumption) | exact decide_eq_false (by with_reducible assumption) | exact decide_eq_true rfl | exact rfl)))
    refine wr_call (vs := [S x]) rfl (name_ca x w hx) rfl ?_
    rintro v w2 ⟨rfl, hk⟩
    (repeat first | (apply wr_assign; exact rfl; with_reducible (conv => enter [6, 3]; whnf)) | apply wr_end | (apply wr_pick (t := false); (iterate 2 exact rfl); with_reducible (conv => enter [6, 3]; whnf)) | (apply wc_ret; try simp only [thenE, inBlockE, bodyQ]))
    exact leave1 (v := .bool (decide (nameOk x))) rfl rfl ⟨rfl, hk⟩
theorem namedC_ca (x : TT) (b : Nat) (g : FuncId) (p : Bool) (T : TypeId) (fr : Nat × Nat) (w : World) (hge : enterable Tryz.prog g = true) (hb : w.heap[b]? = some (.cells #[.func (.func g) #[] #[]] T fr))
    (hg : ∀ w', Ca Tryz.prog g #[S x] w' fun v w'' => v = .bool p ∧ Keeps NoB w' w'') : Ca Tryz.prog 76 #[S x, .pointer (some ⟨b, 0, none⟩)] w fun v w' => v = .bool (!p) ∧ Keeps NoB w w' := by
  refine ca_of_body (args := [S x, .pointer (some ⟨b, 0, none⟩)]) Tryz.func76 rfl (by kernel_rfl) ?_
  (repeat first | (apply wr_move; exact rfl; with_reducible (conv => enter [6, 3]; whnf)) | (apply wr_assign; exact rfl; with_reducible (conv => enter [6, 3]; whnf)) | apply wr_end | apply wc_seq | apply wc_region | (apply wr_load; (iterate 3 exact rfl); (focus repeat first | with_reducible assumption | exact heap_alloc_same _ _ | exact World.putObj_heap_same (by first | omega | (simp only [World.size_alloc, World.putObj_size, ne_eq]; omega)) | ((first | refine hAl ?_ ?_ | refine hPu ?_ ?_); focus first | omega | (simp only [World.size_alloc, World.putObj_size, ne_eq]; omega))); exact rfl; conv => enter [6, 3]; whnf))
  refine wr_callv (vs := [S x]) rfl (callV_func (first := #[]) (cap := #[]) hge (hg w)) rfl rfl ?_
  rintro v w2 ⟨rfl, hk⟩
  (repeat first | (apply wr_assign; exact rfl; with_reducible (conv => enter [6, 3]; whnf)) | apply wr_end | (apply wr_not; iterate 2 exact rfl) | (apply wc_ret; try simp only [thenE, inBlockE, bodyQ]))
  exact leave1 (v := .bool (!p)) rfl rfl ⟨rfl, hk⟩
set_option maxRecDepth 100000 in
set_option maxHeartbeats 1000000 in
theorem containsF_ca (l : TX) (fv sl : Value) (p : TT → Bool) (w : World) (hlen : l.length ≤ 1000000000000000000) (hsl : SlR w 1 sl l.length (SL l))
    (hf : ∀ x ∈ l, ∀ w', Keeps NoB w w' → CallV Tryz.prog fv #[S x] w' fun v w'' => v = .bool (p x) ∧ Keeps NoB w' w'') :
    Ca Tryz.prog 75 #[sl, fv] w fun v w' => v = .bool (l.any p) ∧ Keeps NoB w w' := by
  refine ca_of_body (args := [sl, fv]) Tryz.func75 rfl (by kernel_rfl) ?_
  (repeat first | (apply wr_move; exact rfl; with_reducible (conv => enter [6, 3]; whnf)) | (apply wr_assign; exact rfl; with_reducible (conv => enter [6, 3]; whnf)) | apply wr_end | apply wc_seq | apply wc_region)
  refine wr_call (vs := [sl, fv]) rfl (indexFuncS_ca l fv sl (fun i w' => Keeps NoB w w' ∧ ∀ j x, j < i → l[j]? = some x → p x = false) (fun i w' => Keeps NoB w w' ∧ ∃ x ∈ l, p x = true) w hlen ⟨Keeps.refl _ _, fun j x h => absurd h (Nat.not_lt_zero _)⟩ (fun i w' h => hsl.keep h.1 (fun _ _ h => h)) (fun i x w' hx h => by
    refine (hf x (List.mem_of_getElem? hx) w' h.1).mono ?_
    rintro v w'' ⟨rfl, hk⟩
    refine ⟨p x, rfl, ?_⟩
    cases hp : p x with
    | true => exact .inl ⟨rfl, h.1.trans hk, x, List.mem_of_getElem? hx, hp⟩
    | false =>
      refine .inr ⟨rfl, h.1.trans hk, fun j y hj hy => ?_⟩
      by_cases e : j = i
      · subst e
        rw [hx] at hy
        cases hy
        exact hp
      · exact h.2 j y (by omega) hy)) rfl ?_
  rintro v w2 (⟨i, rfl, hi, hk, x, hx, hp⟩ | ⟨rfl, hk, hall⟩)
  · have : l.any p = true := List.any_eq_true.2 ⟨x, hx, hp⟩
    rw [this]
    (repeat first | (apply wr_assign; exact rfl; with_reducible (conv => enter [6, 3]; whnf)) | apply wr_end | (apply wr_cmp; (iterate 3 exact rfl); exact cmpT (by dsimp only [cmpP]; first | done | omega)) | (apply wc_ret; try simp only [thenE, inBlockE, bodyQ]))
    exact leave1 (v := .bool true) rfl rfl ⟨rfl, hk⟩
  · have : l.any p = false := by
      rw [List.any_eq_false]
      intro x hx
      obtain ⟨j, hj⟩ := List.getElem?_of_mem hx
      rw [hall j x (List.getElem?_eq_some_iff.1 hj).1 hj]; simp
    rw [this]
    (repeat first | (apply wr_assign; exact rfl; with_reducible (conv => enter [6, 3]; whnf)) | apply wr_end | (apply wr_cmp; (iterate 3 exact rfl); exact cmpF (by dsimp only [cmpN]; first | done | omega)) | (apply wc_ret; try simp only [thenE, inBlockE, bodyQ]))
    exact leave1 (v := .bool false) rfl rfl ⟨rfl, hk⟩
set_option maxRecDepth 100000 in
set_option maxHeartbeats 1000000 in
theorem named_ca (l : TX) (sl : Value) (g : FuncId) (p : TT → Bool) (w : World) (hlen : l.length ≤ 1000000000000000000) (hsl : SlR w 1 sl l.length (SL l)) (hge : enterable Tryz.prog g = true)
    (hg : ∀ x ∈ l, ∀ w', Ca Tryz.prog g #[S x] w' fun v w'' => v = .bool (p x) ∧ Keeps NoB w' w'') :
    Ca Tryz.prog 50 #[sl, .func (.func g) #[] #[]] w fun v w' => v = .bool (decide (l.length ≤ 64) && l.all p) ∧ Keeps NoB w w' := by
  obtain ⟨a, c, rfl, hc, _⟩ := hsl.shape
  refine ca_of_body (args := [.slice a l.length c, .func (.func g) #[] #[]]) Tryz.func50 rfl (by kernel_rfl) ?_
  apply wc_seq
  apply wc_region
  refine wr_box (v := .func (.func g) #[] #[]) rfl rfl ?_
  refine wr_name ?_
  intro w1 hw1
  obtain ⟨b1, hb1⟩ : ∃ b, b = w.heap.size := ⟨_, rfl⟩
  have hk1 : Keeps NoB w w1 := by rw [hw1]; exact (Keeps.refl NoB w).alloc _
  have hc1 : ∃ T, w1.heap[b1]? = some (.cells #[.func (.func g) #[] #[]] T (0, 0)) := by rw [hw1, hb1]; exact ⟨_, heap_alloc_same _ _⟩
  obtain ⟨T1, hc1⟩ := hc1
  rw [← hb1]
  clear hw1
  by_cases hn : l.length ≤ 64
  · rw [decide_eq_true hn, Bool.true_and]
    (repeat first | (apply wr_move; exact rfl; with_reducible (conv => enter [6, 3]; whnf)) | (apply wr_assign; exact rfl; with_reducible (conv => enter [6, 3]; whnf)) | apply wr_end | apply wc_seq | apply wc_region | (apply wr_len_slice; iterate 2 exact rfl) | (apply wr_cmp; (iterate 3 exact rfl); exact cmpT (by dsimp only [cmpP]; first | done | omega)))
    refine wr_makeFunc (v1 := []) (v2 := [.pointer (some ⟨b1, 0, none⟩)]) rfl rfl rfl ?_
    refine wr_call (vs := [.slice a l.length c, .func (.func 76) #[] #[.pointer (some ⟨b1, 0, none⟩)]]) rfl (containsF_ca l _ _ (fun x => !p x) w1 hlen (hsl.keep hk1 (fun _ _ h => h)) (fun x hx w' hk => callV_func (first := #[]) (cap := #[.pointer (some ⟨b1, 0, none⟩)]) (by kernel_rfl) (namedC_ca x b1 g (p x) T1 (0, 0) w' hge (hk.heap hc1 (fun h => h)) (hg x hx)))) rfl ?_
    rintro v w2 ⟨rfl, hk2⟩
    have hall : (!l.any fun x => !p x) = l.all p := by simp [List.any_eq_not_all_not]
    (repeat first | (apply wr_assign; exact rfl; with_reducible (conv => enter [6, 3]; whnf)) | apply wr_end | (apply wr_not; iterate 2 exact rfl) | (apply wr_pick (t := true); (iterate 2 exact rfl); with_reducible (conv => enter [6, 3]; whnf)) | (apply wc_ret; try simp only [thenE, inBlockE, bodyQ]))
    exact leave1 (v := .bool (!l.any fun x => !p x)) rfl rfl ⟨by rw [hall], hk1.trans hk2⟩
  · rw [decide_eq_false hn, Bool.false_and]
    (repeat first | (apply wr_move; exact rfl; with_reducible (conv => enter [6, 3]; whnf)) | (apply wr_assign; exact rfl; with_reducible (conv => enter [6, 3]; whnf)) | apply wr_end | apply wc_seq | apply wc_region | (apply wr_len_slice; iterate 2 exact rfl) | (apply wr_cmp; (iterate 3 exact rfl); exact cmpF (by dsimp only [cmpN]; first | done | omega)) | (apply wr_pick (t := false); (iterate 2 exact rfl); with_reducible (conv => enter [6, 3]; whnf)) | (apply wc_ret; try simp only [thenE, inBlockE, bodyQ]) | (apply wr_skip; exact rfl))
    exact leave1 (v := .bool false) rfl rfl ⟨rfl, hk1⟩
end Go.Proofs.YtahlhldkcekbfaaGreatDoor
