/- strings.Trim with a set of ASCII bytes. -/
import Derived.Test.YtjaojihogmnjhaaGreatDoorMf
import Derived.Test.YtjaojihogmnjhaaGreatDoorTab
import Derived.Test.YtjaojihogmnjhaaGreatDoorShelf
namespace Go.Proofs.YtjaojihogmnjhaaGreatDoor
open Go Go.V Go.RowKit
set_option linter.unusedVariables false
set_option linter.unusedSimpArgs false

theorem setHas_ca (C : List UInt8) (c : UInt8) (ab : Nat) {e : TypeId} {fr : Nat × Nat} (w : World) (h : w.heap[ab]? = some (.cells (Lib.setCells C) e fr)) :
    Ca Tryz.prog 94 #[.pointer (some ⟨ab, 0, none⟩), .int .u8 (c.toNat : Int)] w fun v w' => v = .bool (C.contains c) ∧ w' = w :=
  Ca.of_calls (Tryz.asciiSet_contains ab c (C.contains c) w (by have := cell_of_heap h (Lib.setCells_at C c); exact this)) (fun e w' ⟨h1, h2⟩ => ⟨_, h1, rfl, h2⟩)
set_option maxRecDepth 100000 in
set_option maxHeartbeats 1000000 in
theorem trimL_ca (C s : List UInt8) (ab : Nat) {e : TypeId} {fr : Nat × Nat} (w : World) (h : w.heap[ab]? = some (.cells (Lib.setCells C) e fr)) :
    Ca Tryz.prog 90 #[S s, .pointer (some ⟨ab, 0, none⟩)] w fun v w' => v = S (s.dropWhile C.contains) ∧ w' = w := by
  refine ca_of_body (args := [S s, .pointer (some ⟨ab, 0, none⟩)]) Tryz.func90 rfl (by kernel_rfl) ?_
  (repeat first | (apply wr_assign; exact rfl; with_reducible (conv => enter [6, 3]; whnf)) | apply wr_end | apply wc_seq | apply wc_region | apply wc_block)
  refine wc_loopL (α := List UInt8) (fun t => [(0, S t), (1, .pointer (some ⟨ab, 0, none⟩))]) (fun t ds w' => ds = [] ∧ t.dropWhile C.contains = s.dropWhile C.contains ∧ w' = w) (fun t => t.length) s ⟨rfl, rfl, rfl⟩ ⟨rfl, rfl, trivial⟩ ?_
  rintro t ds f0 w2 ⟨rfl, ht, rfl⟩
  cases t with
  | nil =>
    (repeat first | (apply wr_move; exact rfl; with_reducible (conv => enter [6, 3]; whnf)) | (apply wr_assign; exact rfl; with_reducible (conv => enter [6, 3]; whnf)) | apply wr_end | apply wc_seq | apply wc_region | (apply wr_len_str; iterate 2 exact rfl) | (apply wr_cmp; (iterate 3 exact rfl); exact cmp_lt _ _) | (apply wc_false; exact rfl) | (apply wc_exit; try simp only [thenE, inBlockE, bodyQ, ↓reduceIte, Nat.reduceEqDiff]) | (apply wc_ret; try simp only [thenE, inBlockE, bodyQ]))
    exact leave1 (v := S []) rfl rfl ⟨by rw [← ht]; rfl, rfl⟩
  | cons c t =>
    have hl : (c :: t).length = t.length + 1 := rfl
    (repeat first | (apply wr_move; exact rfl; with_reducible (conv => enter [6, 3]; whnf)) | apply wr_end | apply wc_seq | apply wc_region | apply wc_skip | apply wc_block | (apply wr_len_str; iterate 2 exact rfl) | (apply wr_cmp; (iterate 3 exact rfl); exact cmpT (by dsimp only [cmpP]; first | done | omega)) | (apply wc_true; exact rfl))
    refine wr_index_str (b := c) rfl rfl rfl (by decide) rfl ?_
    refine wr_call (vs := [.pointer (some ⟨ab, 0, none⟩), .int .u8 (c.toNat : Int)]) rfl (setHas_ca C c ab w2 h) rfl ?_
    rintro v w3 ⟨rfl, rfl⟩
    cases hc : C.contains c with
    | false =>
      (repeat first | (apply wr_move; exact rfl; with_reducible (conv => enter [6, 3]; whnf)) | (apply wr_assign; exact rfl; with_reducible (conv => enter [6, 3]; whnf)) | apply wr_end | apply wc_seq | apply wc_region | (apply wr_not; iterate 2 exact rfl) | (apply wc_true; exact rfl) | (apply wc_exit; try simp only [thenE, inBlockE, bodyQ, ↓reduceIte, Nat.reduceEqDiff]) | (apply wc_ret; try simp only [thenE, inBlockE, bodyQ]))
      exact leave1 (v := S (c :: t)) rfl rfl ⟨by rw [← ht, List.dropWhile_cons_of_neg (by rw [hc]; decide)], rfl⟩
    | true =>
      (repeat first | (apply wr_move; exact rfl; with_reducible (conv => enter [6, 3]; whnf)) | apply wr_end | apply wc_region | apply wc_skip | (apply wr_not; iterate 2 exact rfl) | (apply wc_false; exact rfl))
      refine wr_sl_from (i := 1) rfl rfl rfl (by rw [hl]; omega) ?_
      (repeat first | (apply wr_assign; exact rfl; with_reducible (conv => enter [6, 3]; whnf)) | (apply wr_nil; try simp only [thenE, inBlockE, bodyQ]))
      exact ⟨t, by simp, ⟨by trivial, by rw [← ht, List.dropWhile_cons_of_pos hc], by trivial⟩, rfl, rfl, trivial⟩
def trimR (C s : List UInt8) : List UInt8 := (s.reverse.dropWhile C.contains).reverse
theorem trimR_snoc (C t : List UInt8) (c : UInt8) : trimR C (t ++ [c]) = if C.contains c = true then trimR C t else t ++ [c] := by
  unfold trimR
  rw [List.reverse_append, List.reverse_singleton, List.singleton_append]
  by_cases hc : C.contains c = true
  · rw [if_pos hc, List.dropWhile_cons_of_pos hc]
  · rw [if_neg hc, List.dropWhile_cons_of_neg hc]; simp
set_option maxRecDepth 100000 in
set_option maxHeartbeats 1000000 in
theorem trimR_ca (C s : List UInt8) (ab : Nat) {e : TypeId} {fr : Nat × Nat} (w : World) (hs : s.length ≤ 1000000) (h : w.heap[ab]? = some (.cells (Lib.setCells C) e fr)) :
    Ca Tryz.prog 91 #[S s, .pointer (some ⟨ab, 0, none⟩)] w fun v w' => v = S (trimR C s) ∧ w' = w := by
  refine ca_of_body (args := [S s, .pointer (some ⟨ab, 0, none⟩)]) Tryz.func91 rfl (by kernel_rfl) ?_
  (repeat first | (apply wr_assign; exact rfl; with_reducible (conv => enter [6, 3]; whnf)) | apply wr_end | apply wc_seq | apply wc_region | apply wc_block)
  refine wc_loopL (α := List UInt8) (fun t => [(0, S t), (1, .pointer (some ⟨ab, 0, none⟩))]) (fun t ds w' => ds = [] ∧ (trimR C t = trimR C s ∧ t.length ≤ 1000000) ∧ w' = w) (fun t => t.length) s ⟨rfl, ⟨rfl, hs⟩, rfl⟩ ⟨rfl, rfl, trivial⟩ ?_
  rintro t ds f0 w2 ⟨rfl, ⟨ht, htl⟩, rfl⟩
  rcases List.eq_nil_or_concat t with rfl | ⟨t, c, rfl⟩
  · (repeat first | (apply wr_move; exact rfl; with_reducible (conv => enter [6, 3]; whnf)) | (apply wr_assign; exact rfl; with_reducible (conv => enter [6, 3]; whnf)) | apply wr_end | apply wc_seq | apply wc_region | (apply wr_len_str; iterate 2 exact rfl) | (apply wr_cmp; (iterate 3 exact rfl); exact cmp_lt _ _) | (apply wc_false; exact rfl) | (apply wc_exit; try simp only [thenE, inBlockE, bodyQ, ↓reduceIte, Nat.reduceEqDiff]) | (apply wc_ret; try simp only [thenE, inBlockE, bodyQ]))
    exact leave1 (v := S []) rfl rfl ⟨by rw [← ht]; rfl, rfl⟩
  · rw [List.concat_eq_append] at *
    have hl : (t ++ [c]).length = t.length + 1 := by simp
    have hg : (t ++ [c])[t.length]? = some c := by simp
    (repeat first | (apply wr_move; exact rfl; with_reducible (conv => enter [6, 3]; whnf)) | apply wr_end | apply wc_seq | apply wc_region | apply wc_skip | apply wc_block | (apply wr_len_str; iterate 2 exact rfl) | (apply wr_cmp; (iterate 3 exact rfl); exact cmpT (by dsimp only [cmpP]; first | done | omega)) | (apply wr_sub; (iterate 3 exact rfl); exact w_fit (by dsimp only [kIn]; first | done | omega)) | (apply wc_true; exact rfl))
    rw [show ((t ++ [c]).length : Int) - 1 = (t.length : Int) by omega]
    refine wr_index_str (b := c) rfl rfl rfl (by omega) (by rw [Int.toNat_natCast]; exact hg) ?_
    refine wr_call (vs := [.pointer (some ⟨ab, 0, none⟩), .int .u8 (c.toNat : Int)]) rfl (setHas_ca C c ab w2 h) rfl ?_
    rintro v w3 ⟨rfl, rfl⟩
    have hsn := trimR_snoc C t c
    cases hc : C.contains c with
    | false =>
      rw [hc, if_neg (by decide)] at hsn
      (repeat first | (apply wr_move; exact rfl; with_reducible (conv => enter [6, 3]; whnf)) | (apply wr_assign; exact rfl; with_reducible (conv => enter [6, 3]; whnf)) | apply wr_end | apply wc_seq | apply wc_region | (apply wr_not; iterate 2 exact rfl) | (apply wc_true; exact rfl) | (apply wc_exit; try simp only [thenE, inBlockE, bodyQ, ↓reduceIte, Nat.reduceEqDiff]) | (apply wc_ret; try simp only [thenE, inBlockE, bodyQ]))
      exact leave1 (v := S (t ++ [c])) rfl rfl ⟨by rw [← ht, hsn], rfl⟩
    | true =>
      rw [hc, if_pos rfl] at hsn
      (repeat first | (apply wr_move; exact rfl; with_reducible (conv => enter [6, 3]; whnf)) | apply wr_end | apply wc_region | apply wc_skip | (apply wr_not; iterate 2 exact rfl) | (apply wr_len_str; iterate 2 exact rfl) | (apply wr_sub; (iterate 3 exact rfl); exact w_fit (by dsimp only [kIn]; first | done | omega)) | (apply wc_false; exact rfl))
      rw [show ((t ++ [c]).length : Int) - 1 = (t.length : Int) by omega]
      refine wr_sl_to (j := t.length) rfl rfl rfl (by omega) ?_
      rw [List.take_left]
      (repeat first | (apply wr_assign; exact rfl; with_reducible (conv => enter [6, 3]; whnf)) | (apply wr_nil; try simp only [thenE, inBlockE, bodyQ]))
      exact ⟨t, by simp, ⟨by trivial, ⟨by rw [← ht, hsn], by omega⟩, by trivial⟩, rfl, rfl, trivial⟩
end Go.Proofs.YtjaojihogmnjhaaGreatDoor
