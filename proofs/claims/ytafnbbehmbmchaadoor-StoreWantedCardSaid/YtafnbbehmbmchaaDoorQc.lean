/- container/heap: down, Init, Pop. -/
import Derived.Test.YtafnbbehmbmchaaDoorQb
namespace Go.Proofs.YtafnbbehmbmchaaDoor
open Go Go.V Go.RowKit
set_option linter.unusedVariables false
set_option linter.unusedSimpArgs false

theorem mLess (b : Nat) (w : World) : (Go.method (Tryd.prog.types.size + Made.depth) 85 (.pointer (some ⟨b, 0, none⟩)) "Less").run Tryd.prog w = (do let v ← loadVar 87 ⟨b, 0, none⟩; pure (110, v) : Sem (FuncId × Value)).run Tryd.prog w := by kernel_rfl
theorem mLessAt {b : Nat} {w : World} {v : Value} {T : TypeId} {fr : Nat × Nat} (h : w.heap[b]? = some (.cells #[v] T fr)) : (Go.method (Tryd.prog.types.size + Made.depth) 85 (.pointer (some ⟨b, 0, none⟩)) "Less").run Tryd.prog w = .ok (110, v) w := by
  rw [mLess]
  have h1 : (loadVar 87 ⟨b, 0, none⟩).run Tryd.prog w = .ok v w := run_load1 (P := Tryd.prog) (t := 87) inferInstance rfl (cell_of_heap h rfl)
  simp only [Sem.run_bind, h1, Result.andThen_ok, Sem.run_pure]
theorem mSwap (b : Nat) (w : World) : (Go.method (Tryd.prog.types.size + Made.depth) 85 (.pointer (some ⟨b, 0, none⟩)) "Swap").run Tryd.prog w = (do let v ← loadVar 87 ⟨b, 0, none⟩; pure (113, v) : Sem (FuncId × Value)).run Tryd.prog w := by kernel_rfl
theorem mSwapAt {b : Nat} {w : World} {v : Value} {T : TypeId} {fr : Nat × Nat} (h : w.heap[b]? = some (.cells #[v] T fr)) : (Go.method (Tryd.prog.types.size + Made.depth) 85 (.pointer (some ⟨b, 0, none⟩)) "Swap").run Tryd.prog w = .ok (113, v) w := by
  rw [mSwap]
  have h1 : (loadVar 87 ⟨b, 0, none⟩).run Tryd.prog w = .ok v w := run_load1 (P := Tryd.prog) (t := 87) inferInstance rfl (cell_of_heap h rfl)
  simp only [Sem.run_bind, h1, Result.andThen_ok, Sem.run_pure]
theorem mPop (b : Nat) (w : World) : (Go.method (Tryd.prog.types.size + Made.depth) 85 (.pointer (some ⟨b, 0, none⟩)) "Pop").run Tryd.prog w = .ok (111, .pointer (some ⟨b, 0, none⟩)) w := by kernel_rfl
theorem HeapAt.shape {w : World} {base vb : Nat} {v : Value} {l : List PE} (h : HeapAt w base vb v l) : ∃ a c, v = .slice a l.length c := own_sl' h.row
theorem HeapAt.len {w : World} {base vb : Nat} {v : Value} {l : List PE} (h : HeapAt w base vb v l) : Ca Tryd.prog 109 #[v] w fun r w' => r = .int .i64 (l.length : Int) ∧ w' = w := by
  obtain ⟨a, c, rfl⟩ := h.shape
  exact lenI_ca a l.length c w
abbrev ifV (vb : Nat) : Value := .iface 85 (.pointer (some ⟨vb, 0, none⟩))
set_option maxRecDepth 100000 in
set_option maxHeartbeats 4000000 in
theorem down_ca {base vb : Nat} {v : Value} {l : List PE} {w : World} (h : HeapAt w base vb v l) (hl : l.length ≤ 4096) (k n : Nat) (hn : n ≤ l.length) (hkn : k ≤ n) :
    Ca Tryd.prog 41 #[ifV vb, .int .i64 (k : Int), .int .i64 (n : Int)] w fun r w' => ∃ l' : List PE, HeapAt w' base vb v l' ∧ l'.Perm l ∧ (∀ q, n ≤ q → l'[q]? = l[q]?) ∧ (HeapF ltE (k + 1) n l → HeapF ltE k n l') ∧ Keeps (fun b => v.ownBlock = some b) w w' := by
  refine ca_of_body (args := [ifV vb, .int .i64 (k : Int), .int .i64 (n : Int)]) Tryd.func41 rfl (by kernel_rfl) ?_
  (repeat first | (apply wr_move; exact rfl; with_reducible (conv => enter [6, 3]; whnf)) | (apply wr_assign; exact rfl; with_reducible (conv => enter [6, 3]; whnf)) | apply wr_end | apply wc_seq | apply wc_region | apply wc_block)
  refine wc_loopL (α := Nat × List PE) (fun p => [(0, ifV vb), (1, .int .i64 (k : Int)), (2, .int .i64 (n : Int)), (7, .int .i64 (p.1 : Int))])
    (fun p ds w' => ds = [] ∧ k ≤ p.1 ∧ p.1 ≤ n ∧ HeapAt w' base vb v p.2 ∧ p.2.Perm l ∧ (∀ q, n ≤ q → p.2[q]? = l[q]?) ∧ (HeapF ltE (k + 1) n l → DownI ltE k n p.1 p.2) ∧ Keeps (fun b => v.ownBlock = some b) w w') (fun p => n - p.1) (k, l)
    ⟨rfl, Nat.le_refl _, hkn, h, List.Perm.refl _, fun _ _ => rfl, fun h0 => down_start h0, Keeps.refl _ _⟩ ⟨rfl, rfl, rfl, rfl, trivial⟩ ?_
  rintro ⟨cur, l1⟩ ds f0 w1 ⟨rfl, hkc, hcn, hH, hp, hq, hdi, hk1⟩
  dsimp only at hkc hcn hH hp hq hdi ⊢
  have hl1 : l1.length = l.length := hp.length_eq
  have hcc : 2 * (cur : Int) + 1 = ((2 * cur + 1 : Nat) : Int) := by omega
  by_cases hleaf : n ≤ 2 * cur + 1
  · skip
    by_cases hkc : k < cur
    focus
      (repeat first | (apply wr_move; exact rfl; with_reducible (conv => enter [6, 3]; whnf)) | (apply wr_assign; exact rfl; with_reducible (conv => enter [6, 3]; whnf)) | apply wr_end | apply wc_seq | apply wc_region | apply wc_block | (apply wr_cmp; (iterate 3 exact rfl); exact cmpT (by dsimp only [cmpP]; first | done | omega)) | (apply wr_pick (t := true); (iterate 2 exact rfl); with_reducible (conv => enter [6, 3]; whnf)) | (apply wr_add; (iterate 3 exact rfl); exact w_fit (by dsimp only [kIn]; first | done | omega)) | (apply wr_mul; (iterate 3 exact rfl); exact w_fit (by dsimp only [kIn]; first | done | omega)) | (apply wc_true; exact rfl) | (apply wc_exit; try simp only [thenE, inBlockE, bodyQ, ↓reduceIte, Nat.reduceEqDiff]) | (apply wc_ret; try simp only [thenE, inBlockE, bodyQ]) | (apply wr_skip; exact rfl))
      exact leave1 (v := .bool true) rfl rfl ⟨l1, hH, hp, hq, (fun h0 => down_leaf (hdi h0) hleaf), hk1⟩
    (repeat first | (apply wr_move; exact rfl; with_reducible (conv => enter [6, 3]; whnf)) | (apply wr_assign; exact rfl; with_reducible (conv => enter [6, 3]; whnf)) | apply wr_end | apply wc_seq | apply wc_region | apply wc_block | (apply wr_cmp; (iterate 3 exact rfl); exact cmpT (by dsimp only [cmpP]; first | done | omega)) | (apply wr_cmp; (iterate 3 exact rfl); exact cmpF (by dsimp only [cmpN]; first | done | omega)) | (apply wr_pick (t := true); (iterate 2 exact rfl); with_reducible (conv => enter [6, 3]; whnf)) | (apply wr_add; (iterate 3 exact rfl); exact w_fit (by dsimp only [kIn]; first | done | omega)) | (apply wr_mul; (iterate 3 exact rfl); exact w_fit (by dsimp only [kIn]; first | done | omega)) | (apply wc_true; exact rfl) | (apply wc_exit; try simp only [thenE, inBlockE, bodyQ, ↓reduceIte, Nat.reduceEqDiff]) | (apply wc_ret; try simp only [thenE, inBlockE, bodyQ]) | (apply wr_skip; exact rfl))
    exact leave1 (v := .bool false) rfl rfl ⟨l1, hH, hp, hq, (fun h0 => down_leaf (hdi h0) hleaf), hk1⟩
  obtain ⟨x, hx⟩ : ∃ x, l1[cur]? = some x := ⟨l1[cur]'(by omega), by simp [show cur < l1.length by omega]⟩
  obtain ⟨y1, hy1⟩ : ∃ x, l1[2 * cur + 1]? = some x := ⟨l1[2 * cur + 1]'(by omega), by simp [show 2 * cur + 1 < l1.length by omega]⟩
  by_cases h2 : 2 * cur + 2 < n
  · obtain ⟨y2, hy2⟩ : ∃ x, l1[2 * cur + 2]? = some x := ⟨l1[2 * cur + 2]'(by omega), by simp [show 2 * cur + 2 < l1.length by omega]⟩
    have hc2 : (2 * (cur : Int) + 1) + 1 = ((2 * cur + 2 : Nat) : Int) := by omega
    (repeat first | (apply wr_move; exact rfl; with_reducible (conv => enter [6, 3]; whnf)) | (apply wr_assign; exact rfl; with_reducible (conv => enter [6, 3]; whnf)) | apply wr_end | apply wc_seq | apply wc_region | apply wc_skip | apply wc_block | (apply wr_cmp; (iterate 3 exact rfl); exact cmpT (by dsimp only [cmpP]; first | done | omega)) | (apply wr_cmp; (iterate 3 exact rfl); exact cmpF (by dsimp only [cmpN]; first | done | omega)) | (apply wr_pick (t := false); (iterate 2 exact rfl); with_reducible (conv => enter [6, 3]; whnf)) | (apply wr_add; (iterate 3 exact rfl); exact w_fit (by dsimp only [kIn]; first | done | omega)) | (apply wr_mul; (iterate 3 exact rfl); exact w_fit (by dsimp only [kIn]; first | done | omega)) | (apply wc_false; exact rfl))
    refine wr_invoke (vs := [.int .i64 ((2 * cur + 2 : Nat) : Int), .int .i64 ((2 * cur + 1 : Nat) : Int)]) rfl (mLessAt hH.cell) (less_ca hH hy2 hy1) rfl rfl ?_
    rintro r w3 ⟨rfl, hk3⟩
    have hH3 := hH.keep hk3
    have hk13 := hk1.trans hk3.upD
    by_cases h21 : ltE y2 y1
    · rw [decide_eq_true h21]
      (repeat first | (apply wr_move; exact rfl; with_reducible (conv => enter [6, 3]; whnf)) | (apply wr_assign; exact rfl; with_reducible (conv => enter [6, 3]; whnf)) | apply wr_end | apply wc_seq | apply wc_region | (apply wr_pick (t := true); (iterate 2 exact rfl); with_reducible (conv => enter [6, 3]; whnf)) | (apply wc_true; exact rfl))
      have hm : MinCh ltE n cur ((2 * cur + 2)) l1 := minCh_two ltE_strict h2 hy1 hy2 h21
      refine wr_invoke (vs := [.int .i64 (((2 * cur + 2) : Nat) : Int), .int .i64 (cur : Int)]) rfl (mLessAt hH3.cell) (less_ca hH3 hy2 hx) rfl rfl ?_
      rintro r w4 ⟨rfl, hk4⟩
      have hH4 := hH3.keep hk4
      by_cases hyx : ltE y2 x
      rotate_left
      focus
        rw [decide_eq_false hyx]
        have hk1 := hk13.trans hk4.upD
        have hH := hH4
        by_cases hkc : k < cur
        focus
          (repeat first | (apply wr_move; exact rfl; with_reducible (conv => enter [6, 3]; whnf)) | (apply wr_assign; exact rfl; with_reducible (conv => enter [6, 3]; whnf)) | apply wr_end | apply wc_seq | apply wc_region | (apply wr_not; iterate 2 exact rfl) | (apply wr_cmp; (iterate 3 exact rfl); exact cmpT (by dsimp only [cmpP]; first | done | omega)) | (apply wc_true; exact rfl) | (apply wc_exit; try simp only [thenE, inBlockE, bodyQ, ↓reduceIte, Nat.reduceEqDiff]) | (apply wc_ret; try simp only [thenE, inBlockE, bodyQ]))
          exact leave1 (v := .bool true) rfl rfl ⟨l1, hH, hp, hq, (fun h0 => down_end ltE_strict (hdi h0) hm hx hy2 hyx), hk1⟩
        (repeat first | (apply wr_move; exact rfl; with_reducible (conv => enter [6, 3]; whnf)) | (apply wr_assign; exact rfl; with_reducible (conv => enter [6, 3]; whnf)) | apply wr_end | apply wc_seq | apply wc_region | (apply wr_not; iterate 2 exact rfl) | (apply wr_cmp; (iterate 3 exact rfl); exact cmpF (by dsimp only [cmpN]; first | done | omega)) | (apply wc_true; exact rfl) | (apply wc_exit; try simp only [thenE, inBlockE, bodyQ, ↓reduceIte, Nat.reduceEqDiff]) | (apply wc_ret; try simp only [thenE, inBlockE, bodyQ]))
        exact leave1 (v := .bool false) rfl rfl ⟨l1, hH, hp, hq, (fun h0 => down_end ltE_strict (hdi h0) hm hx hy2 hyx), hk1⟩
      rw [decide_eq_true hyx]
      (repeat first | (apply wr_move; exact rfl; with_reducible (conv => enter [6, 3]; whnf)) | apply wr_end | apply wc_seq | apply wc_region | apply wc_skip | (apply wr_not; iterate 2 exact rfl) | (apply wc_false; exact rfl))
      refine wr_invoke (vs := [.int .i64 (cur : Int), .int .i64 (((2 * cur + 2) : Nat) : Int)]) rfl (mSwapAt hH4.cell) (swap_ca hH4 hx hy2) rfl rfl ?_
      rintro r w5 ⟨rfl, hH5, hk5⟩
      (repeat first | (apply wr_move; exact rfl; with_reducible (conv => enter [6, 3]; whnf)) | (apply wr_assign; exact rfl; with_reducible (conv => enter [6, 3]; whnf)) | apply wr_end | apply wc_region | (apply wr_nil; try simp only [thenE, inBlockE, bodyQ]))
      refine ⟨((2 * cur + 2), (l1.set cur y2).set (2 * cur + 2) x), by dsimp only; omega, ⟨by trivial, by dsimp only; omega, by dsimp only; omega, hH5, (swap_perm hx hy2).trans hp, fun q hqn => ?_, fun h0 => down_step ltE_strict hkc (hdi h0) hm hx hy2 hyx, (hk13.trans hk4.upD).trans hk5⟩, rfl, rfl, rfl, rfl, trivial⟩
      dsimp only
      rw [swap_get (by omega) (by omega) (by omega), if_neg (by omega), if_neg (by omega)]
      exact hq q hqn
    · rw [decide_eq_false h21]
      (repeat first | (apply wr_move; exact rfl; with_reducible (conv => enter [6, 3]; whnf)) | apply wr_end | apply wc_seq | apply wc_region | apply wc_skip | (apply wr_pick (t := true); (iterate 2 exact rfl); with_reducible (conv => enter [6, 3]; whnf)) | (apply wc_false; exact rfl))
      have hm : MinCh ltE n cur ((2 * cur + 1)) l1 := minCh_one ltE_strict (show 2 * cur + 1 < n by omega) (fun a b _ ha hb => by rw [hy1] at ha; rw [hy2] at hb; cases ha; cases hb; exact h21)
      refine wr_invoke (vs := [.int .i64 (((2 * cur + 1) : Nat) : Int), .int .i64 (cur : Int)]) rfl (mLessAt hH3.cell) (less_ca hH3 hy1 hx) rfl rfl ?_
      rintro r w4 ⟨rfl, hk4⟩
      have hH4 := hH3.keep hk4
      by_cases hyx : ltE y1 x
      rotate_left
      focus
        rw [decide_eq_false hyx]
        have hk1 := hk13.trans hk4.upD
        have hH := hH4
        by_cases hkc : k < cur
        focus
          (repeat first | (apply wr_move; exact rfl; with_reducible (conv => enter [6, 3]; whnf)) | (apply wr_assign; exact rfl; with_reducible (conv => enter [6, 3]; whnf)) | apply wr_end | apply wc_seq | apply wc_region | (apply wr_not; iterate 2 exact rfl) | (apply wr_cmp; (iterate 3 exact rfl); exact cmpT (by dsimp only [cmpP]; first | done | omega)) | (apply wc_true; exact rfl) | (apply wc_exit; try simp only [thenE, inBlockE, bodyQ, ↓reduceIte, Nat.reduceEqDiff]) | (apply wc_ret; try simp only [thenE, inBlockE, bodyQ]))
          exact leave1 (v := .bool true) rfl rfl ⟨l1, hH, hp, hq, (fun h0 => down_end ltE_strict (hdi h0) hm hx hy1 hyx), hk1⟩
        (repeat first | (apply wr_move; exact rfl; with_reducible (conv => enter [6, 3]; whnf)) | (apply wr_assign; exact rfl; with_reducible (conv => enter [6, 3]; whnf)) | apply wr_end | apply wc_seq | apply wc_region | (apply wr_not; iterate 2 exact rfl) | (apply wr_cmp; (iterate 3 exact rfl); exact cmpF (by dsimp only [cmpN]; first | done | omega)) | (apply wc_true; exact rfl) | (apply wc_exit; try simp only [thenE, inBlockE, bodyQ, ↓reduceIte, Nat.reduceEqDiff]) | (apply wc_ret; try simp only [thenE, inBlockE, bodyQ]))
        exact leave1 (v := .bool false) rfl rfl ⟨l1, hH, hp, hq, (fun h0 => down_end ltE_strict (hdi h0) hm hx hy1 hyx), hk1⟩
      rw [decide_eq_true hyx]
      (repeat first | (apply wr_move; exact rfl; with_reducible (conv => enter [6, 3]; whnf)) | apply wr_end | apply wc_seq | apply wc_region | apply wc_skip | (apply wr_not; iterate 2 exact rfl) | (apply wc_false; exact rfl))
      refine wr_invoke (vs := [.int .i64 (cur : Int), .int .i64 (((2 * cur + 1) : Nat) : Int)]) rfl (mSwapAt hH4.cell) (swap_ca hH4 hx hy1) rfl rfl ?_
      rintro r w5 ⟨rfl, hH5, hk5⟩
      (repeat first | (apply wr_move; exact rfl; with_reducible (conv => enter [6, 3]; whnf)) | (apply wr_assign; exact rfl; with_reducible (conv => enter [6, 3]; whnf)) | apply wr_end | apply wc_region | (apply wr_nil; try simp only [thenE, inBlockE, bodyQ]))
      refine ⟨((2 * cur + 1), (l1.set cur y1).set (2 * cur + 1) x), by dsimp only; omega, ⟨by trivial, by dsimp only; omega, by dsimp only; omega, hH5, (swap_perm hx hy1).trans hp, fun q hqn => ?_, fun h0 => down_step ltE_strict hkc (hdi h0) hm hx hy1 hyx, (hk13.trans hk4.upD).trans hk5⟩, rfl, rfl, rfl, rfl, trivial⟩
      dsimp only
      rw [swap_get (by omega) (by omega) (by omega), if_neg (by omega), if_neg (by omega)]
      exact hq q hqn
  · skip
    (repeat first | (apply wr_move; exact rfl; with_reducible (conv => enter [6, 3]; whnf)) | (apply wr_assign; exact rfl; with_reducible (conv => enter [6, 3]; whnf)) | apply wr_end | apply wc_seq | apply wc_region | apply wc_skip | apply wc_block | (apply wr_cmp; (iterate 3 exact rfl); exact cmpF (by dsimp only [cmpN]; first | done | omega)) | (apply wr_pick (t := false); (iterate 2 exact rfl); with_reducible (conv => enter [6, 3]; whnf)) | (apply wr_add; (iterate 3 exact rfl); exact w_fit (by dsimp only [kIn]; first | done | omega)) | (apply wr_mul; (iterate 3 exact rfl); exact w_fit (by dsimp only [kIn]; first | done | omega)) | (apply wc_false; exact rfl) | (apply wr_skip; exact rfl))
    have hm : MinCh ltE n cur ((2 * cur + 1)) l1 := minCh_one ltE_strict (show 2 * cur + 1 < n by omega) (fun a b h' _ _ => absurd h' h2)
    refine wr_invoke (vs := [.int .i64 (((2 * cur + 1) : Nat) : Int), .int .i64 (cur : Int)]) rfl (mLessAt hH.cell) (less_ca hH hy1 hx) rfl rfl ?_
    rintro r w4 ⟨rfl, hk4⟩
    have hH4 := hH.keep hk4
    by_cases hyx : ltE y1 x
    rotate_left
    focus
      rw [decide_eq_false hyx]
      have hk1 := hk1.trans hk4.upD
      have hH := hH4
      by_cases hkc : k < cur
      focus
        (repeat first | (apply wr_move; exact rfl; with_reducible (conv => enter [6, 3]; whnf)) | (apply wr_assign; exact rfl; with_reducible (conv => enter [6, 3]; whnf)) | apply wr_end | apply wc_seq | apply wc_region | (apply wr_not; iterate 2 exact rfl) | (apply wr_cmp; (iterate 3 exact rfl); exact cmpT (by dsimp only [cmpP]; first | done | omega)) | (apply wc_true; exact rfl) | (apply wc_exit; try simp only [thenE, inBlockE, bodyQ, ↓reduceIte, Nat.reduceEqDiff]) | (apply wc_ret; try simp only [thenE, inBlockE, bodyQ]))
        exact leave1 (v := .bool true) rfl rfl ⟨l1, hH, hp, hq, (fun h0 => down_end ltE_strict (hdi h0) hm hx hy1 hyx), hk1⟩
      (repeat first | (apply wr_move; exact rfl; with_reducible (conv => enter [6, 3]; whnf)) | (apply wr_assign; exact rfl; with_reducible (conv => enter [6, 3]; whnf)) | apply wr_end | apply wc_seq | apply wc_region | (apply wr_not; iterate 2 exact rfl) | (apply wr_cmp; (iterate 3 exact rfl); exact cmpF (by dsimp only [cmpN]; first | done | omega)) | (apply wc_true; exact rfl) | (apply wc_exit; try simp only [thenE, inBlockE, bodyQ, ↓reduceIte, Nat.reduceEqDiff]) | (apply wc_ret; try simp only [thenE, inBlockE, bodyQ]))
      exact leave1 (v := .bool false) rfl rfl ⟨l1, hH, hp, hq, (fun h0 => down_end ltE_strict (hdi h0) hm hx hy1 hyx), hk1⟩
    rw [decide_eq_true hyx]
    (repeat first | (apply wr_move; exact rfl; with_reducible (conv => enter [6, 3]; whnf)) | apply wr_end | apply wc_seq | apply wc_region | apply wc_skip | (apply wr_not; iterate 2 exact rfl) | (apply wc_false; exact rfl))
    refine wr_invoke (vs := [.int .i64 (cur : Int), .int .i64 (((2 * cur + 1) : Nat) : Int)]) rfl (mSwapAt hH4.cell) (swap_ca hH4 hx hy1) rfl rfl ?_
    rintro r w5 ⟨rfl, hH5, hk5⟩
    (repeat first | (apply wr_move; exact rfl; with_reducible (conv => enter [6, 3]; whnf)) | (apply wr_assign; exact rfl; with_reducible (conv => enter [6, 3]; whnf)) | apply wr_end | apply wc_region | (apply wr_nil; try simp only [thenE, inBlockE, bodyQ]))
    refine ⟨((2 * cur + 1), (l1.set cur y1).set (2 * cur + 1) x), by dsimp only; omega, ⟨by trivial, by dsimp only; omega, by dsimp only; omega, hH5, (swap_perm hx hy1).trans hp, fun q hqn => ?_, fun h0 => down_step ltE_strict hkc (hdi h0) hm hx hy1 hyx, (hk1.trans hk4.upD).trans hk5⟩, rfl, rfl, rfl, rfl, trivial⟩
    dsimp only
    rw [swap_get (by omega) (by omega) (by omega), if_neg (by omega), if_neg (by omega)]
    exact hq q hqn
end Go.Proofs.YtafnbbehmbmchaaDoor
