/- noriaref03.Name, noriaref09: listed, with. -/
import Derived.Test.YtajajahofkialaaGreatDoorHw
namespace Go.Proofs.YtajajahofkialaaGreatDoor
open Go Go.V Go.RowKit
set_option linter.unusedVariables false
set_option linter.unusedSimpArgs false

theorem dropWhile_nil {p : UInt8 → Bool} : ∀ {s : List UInt8}, s.dropWhile p = [] ↔ ∀ b ∈ s, p b = true
  | [] => by simp
  | a :: s => by
    rw [List.dropWhile_cons]
    cases h : p a with
    | true => simp only [if_true, List.mem_cons, forall_eq_or_imp, h, true_and]; exact dropWhile_nil
    | false => simp [h]
theorem dropWhile_split (p : UInt8 → Bool) : ∀ s : List UInt8, ∃ t, s = t ++ s.dropWhile p ∧ ∀ b ∈ t, p b = true
  | [] => ⟨[], rfl, by simp⟩
  | a :: s => by
    rw [List.dropWhile_cons]
    cases h : p a with
    | true =>
      obtain ⟨t, e, ht⟩ := dropWhile_split p s
      exact ⟨a :: t, by simp only [if_true, List.cons_append]; rw [← e], by simp [h]; exact ht⟩
    | false => exact ⟨[], rfl, by simp⟩
theorem trimN_nil (s : List UInt8) : trimN s = [] ↔ ∀ b ∈ s, nameSet.contains b = true := by
  unfold trimN
  rw [dropWhile_nil]
  unfold trimR
  obtain ⟨t, e, ht⟩ := dropWhile_split nameSet.contains s.reverse
  constructor
  · intro h b hb
    have hb2 : b ∈ s.reverse := by simpa using hb
    rw [e, List.mem_append] at hb2
    rcases hb2 with h1 | h1
    · exact ht b h1
    · exact h b (by simpa using h1)
  · intro h b hb
    have h1 : b ∈ s.reverse.dropWhile nameSet.contains := by simpa using hb
    have h2 : b ∈ s.reverse := by rw [e]; exact List.mem_append_right _ h1
    exact h b (by simpa using h2)
theorem nameOk_iff (s : List UInt8) : nameOk s ↔ 1 ≤ s.length ∧ s.length ≤ 64 ∧ ∀ b ∈ s, nameSet.contains b = true := by
  unfold nameOk
  rw [trimN_nil]
  have : s ≠ [] ↔ 1 ≤ s.length := by cases s <;> simp
  rw [this]
theorem inSet_iff (b : UInt8) : nameSet.contains b = true ↔ ((97 ≤ b.toNat ∧ b.toNat ≤ 122) ∨ (48 ≤ b.toNat ∧ b.toNat ≤ 57) ∨ b.toNat = 45 ∨ b.toNat = 46 ∨ b.toNat = 47) := by
  have h : ∀ n, n < 256 → (nameSet.contains (UInt8.ofNat n) = true ↔ ((97 ≤ n ∧ n ≤ 122) ∨ (48 ≤ n ∧ n ≤ 57) ∨ n = 45 ∨ n = 46 ∨ n = 47)) := by decide +kernel
  have hb := h b.toNat b.toNat_lt
  rwa [UInt8.ofNat_toNat] at hb
set_option maxRecDepth 100000 in
set_option maxHeartbeats 4000000 in
theorem refName_ca (s : List UInt8) (w : World) (hs : s.length ≤ 9223372036854775807) : Ca Tryz.prog 66 #[S s] w fun v w' => v = .bool (decide (nameOk s)) ∧ w' = w := by
  refine ca_of_body (args := [S s]) Tryz.func66 rfl (by kernel_rfl) ?_
  (repeat first | (apply wr_assign; exact rfl; with_reducible (conv => enter [6, 3]; whnf)) | apply wr_end | apply wc_seq | apply wc_region | apply wc_block)
  refine wc_loopL (α := Nat) (fun i => [(0, S s), (3, .int .i64 (i : Int))])
    (fun i ds w' => (ds = [] ∧ w' = w) ∧ i ≤ s.length ∧ ∀ (j : Nat) y, j < i → s[j]? = some y → nameSet.contains y = true) (fun i => s.length - i) 0 ⟨⟨rfl, rfl⟩, Nat.zero_le _, fun j y h => by omega⟩ ⟨rfl, rfl, trivial⟩ ?_
  rintro i ds f0 w2 ⟨⟨rfl, rfl⟩, hi, hall⟩
  by_cases hlt : i < s.length
  rotate_left
  · have hie : i = s.length := by omega
    have hset : ∀ b ∈ s, nameSet.contains b = true := fun b hb => by
      obtain ⟨j, hj⟩ := List.getElem?_of_mem hb
      exact hall j b (by have := (List.getElem?_eq_some_iff.1 hj).1; omega) hj
    by_cases h1 : 1 ≤ s.length
    · by_cases h64 : s.length ≤ 64
      · (repeat first | (apply wr_move; exact rfl; with_reducible (conv => enter [6, 3]; whnf)) | (apply wr_assign; exact rfl; with_reducible (conv => enter [6, 3]; whnf)) | apply wr_end | apply wc_seq | apply wc_region | (apply wr_len_str; iterate 2 exact rfl) | (apply wr_cmp; (iterate 3 exact rfl); exact cmpT (by dsimp only [cmpP]; first | done | omega)) | (apply wr_cmp; (iterate 3 exact rfl); exact cmpF (by dsimp only [cmpN]; first | done | omega)) | (apply wr_pick (t := true); (iterate 2 exact rfl); with_reducible (conv => enter [6, 3]; whnf)) | (apply wc_false; exact rfl) | (apply wc_exit; try simp only [thenE, inBlockE, bodyQ, ↓reduceIte, Nat.reduceEqDiff]) | (apply wc_ret; try simp only [thenE, inBlockE, bodyQ]))
        exact leave1 (v := .bool true) rfl rfl ⟨by rw [decide_eq_true ((nameOk_iff s).2 ⟨h1, h64, hset⟩)], by trivial⟩
      · (repeat first | (apply wr_move; exact rfl; with_reducible (conv => enter [6, 3]; whnf)) | (apply wr_assign; exact rfl; with_reducible (conv => enter [6, 3]; whnf)) | apply wr_end | apply wc_seq | apply wc_region | (apply wr_len_str; iterate 2 exact rfl) | (apply wr_cmp; (iterate 3 exact rfl); exact cmpT (by dsimp only [cmpP]; first | done | omega)) | (apply wr_cmp; (iterate 3 exact rfl); exact cmpF (by dsimp only [cmpN]; first | done | omega)) | (apply wr_pick (t := true); (iterate 2 exact rfl); with_reducible (conv => enter [6, 3]; whnf)) | (apply wc_false; exact rfl) | (apply wc_exit; try simp only [thenE, inBlockE, bodyQ, ↓reduceIte, Nat.reduceEqDiff]) | (apply wc_ret; try simp only [thenE, inBlockE, bodyQ]))
        exact leave1 (v := .bool false) rfl rfl ⟨by rw [decide_eq_false (fun h => h64 ((nameOk_iff s).1 h).2.1)], by trivial⟩
    · (repeat first | (apply wr_move; exact rfl; with_reducible (conv => enter [6, 3]; whnf)) | (apply wr_assign; exact rfl; with_reducible (conv => enter [6, 3]; whnf)) | apply wr_end | apply wc_seq | apply wc_region | (apply wr_len_str; iterate 2 exact rfl) | (apply wr_cmp; (iterate 3 exact rfl); exact cmpF (by dsimp only [cmpN]; first | done | omega)) | (apply wr_pick (t := false); (iterate 2 exact rfl); with_reducible (conv => enter [6, 3]; whnf)) | (apply wc_false; exact rfl) | (apply wc_exit; try simp only [thenE, inBlockE, bodyQ, ↓reduceIte, Nat.reduceEqDiff]) | (apply wc_ret; try simp only [thenE, inBlockE, bodyQ]) | (apply wr_skip; exact rfl))
      exact leave1 (v := .bool false) rfl rfl ⟨by rw [decide_eq_false (fun h => h1 ((nameOk_iff s).1 h).1)], by trivial⟩
  obtain ⟨b, hb⟩ : ∃ b, s[i]? = some b := ⟨s[i], by simp [hlt]⟩
  have hb8 := b.toNat_lt
  (repeat first | (apply wr_move; exact rfl; with_reducible (conv => enter [6, 3]; whnf)) | apply wr_end | apply wc_seq | apply wc_region | apply wc_skip | apply wc_block | (apply wr_len_str; iterate 2 exact rfl) | (apply wr_cmp; (iterate 3 exact rfl); exact cmpT (by dsimp only [cmpP]; first | done | omega)) | (apply wc_true; exact rfl))
  refine wr_index_str (i := (i : Int)) (b := b) rfl rfl rfl (by omega) (by simpa using hb) ?_
  by_cases c1 : 97 ≤ b.toNat
  · by_cases c2 : b.toNat ≤ 122
    · skip
      (repeat first | (apply wr_move; exact rfl; with_reducible (conv => enter [6, 3]; whnf)) | (apply wr_assign; exact rfl; with_reducible (conv => enter [6, 3]; whnf)) | apply wr_end | apply wc_seq | apply wc_region | apply wc_skip | (apply wr_not; iterate 2 exact rfl) | (apply wr_cmp; (iterate 3 exact rfl); exact cmpT (by dsimp only [cmpP]; first | done | omega)) | (apply wr_pick (t := true); (iterate 2 exact rfl); with_reducible (conv => enter [6, 3]; whnf)) | (apply wr_add; (iterate 3 exact rfl); exact w_fit (by dsimp only [kIn]; first | done | omega)) | (apply wc_false; exact rfl) | (apply wr_skip; exact rfl))
      exact ⟨i + 1, by omega, ⟨by trivial, hlt, fun j y hj hy => by
        by_cases hji : j = i
        · subst hji; rw [hb] at hy; cases hy; rw [inSet_iff]; omega
        · exact hall j y (by omega) hy⟩, rfl, by simp, trivial⟩
    · (repeat first | (apply wr_move; exact rfl; with_reducible (conv => enter [6, 3]; whnf)) | (apply wr_assign; exact rfl; with_reducible (conv => enter [6, 3]; whnf)) | apply wr_end | apply wc_seq | apply wc_region | (apply wr_not; iterate 2 exact rfl) | (apply wr_cmp; (iterate 3 exact rfl); exact cmpT (by dsimp only [cmpP]; first | done | omega)) | (apply wr_cmp; (iterate 3 exact rfl); exact cmpF (by dsimp only [cmpN]; first | done | omega)) | (apply wr_pick (t := true); (iterate 2 exact rfl); with_reducible (conv => enter [6, 3]; whnf)) | (apply wr_pick (t := false); (iterate 2 exact rfl); with_reducible (conv => enter [6, 3]; whnf)) | (apply wc_true; exact rfl) | (apply wc_ret; try simp only [thenE, inBlockE, bodyQ]))
      refine leave1 (v := .bool false) rfl rfl ⟨by rw [decide_eq_false]; intro h; have := (inSet_iff b).1 (((nameOk_iff s).1 h).2.2 b (List.mem_of_getElem? hb)); omega, by trivial⟩
  · by_cases c3 : 48 ≤ b.toNat
    · by_cases c4 : b.toNat ≤ 57
      · skip
        (repeat first | (apply wr_move; exact rfl; with_reducible (conv => enter [6, 3]; whnf)) | (apply wr_assign; exact rfl; with_reducible (conv => enter [6, 3]; whnf)) | apply wr_end | apply wc_seq | apply wc_region | apply wc_skip | (apply wr_not; iterate 2 exact rfl) | (apply wr_cmp; (iterate 3 exact rfl); exact cmpT (by dsimp only [cmpP]; first | done | omega)) | (apply wr_cmp; (iterate 3 exact rfl); exact cmpF (by dsimp only [cmpN]; first | done | omega)) | (apply wr_pick (t := true); (iterate 2 exact rfl); with_reducible (conv => enter [6, 3]; whnf)) | (apply wr_pick (t := false); (iterate 2 exact rfl); with_reducible (conv => enter [6, 3]; whnf)) | (apply wr_add; (iterate 3 exact rfl); exact w_fit (by dsimp only [kIn]; first | done | omega)) | (apply wc_false; exact rfl) | (apply wr_skip; exact rfl))
        exact ⟨i + 1, by omega, ⟨by trivial, hlt, fun j y hj hy => by
          by_cases hji : j = i
          · subst hji; rw [hb] at hy; cases hy; rw [inSet_iff]; omega
          · exact hall j y (by omega) hy⟩, rfl, by simp, trivial⟩
      · (repeat first | (apply wr_move; exact rfl; with_reducible (conv => enter [6, 3]; whnf)) | (apply wr_assign; exact rfl; with_reducible (conv => enter [6, 3]; whnf)) | apply wr_end | apply wc_seq | apply wc_region | (apply wr_not; iterate 2 exact rfl) | (apply wr_cmp; (iterate 3 exact rfl); exact cmpT (by dsimp only [cmpP]; first | done | omega)) | (apply wr_cmp; (iterate 3 exact rfl); exact cmpF (by dsimp only [cmpN]; first | done | omega)) | (apply wr_pick (t := true); (iterate 2 exact rfl); with_reducible (conv => enter [6, 3]; whnf)) | (apply wr_pick (t := false); (iterate 2 exact rfl); with_reducible (conv => enter [6, 3]; whnf)) | (apply wc_true; exact rfl) | (apply wc_ret; try simp only [thenE, inBlockE, bodyQ]) | (apply wr_skip; exact rfl))
        refine leave1 (v := .bool false) rfl rfl ⟨by rw [decide_eq_false]; intro h; have := (inSet_iff b).1 (((nameOk_iff s).1 h).2.2 b (List.mem_of_getElem? hb)); omega, by trivial⟩
    · by_cases c5 : b.toNat = 45
      · skip
        (repeat first | (apply wr_move; exact rfl; with_reducible (conv => enter [6, 3]; whnf)) | (apply wr_assign; exact rfl; with_reducible (conv => enter [6, 3]; whnf)) | apply wr_end | apply wc_seq | apply wc_region | apply wc_skip | (apply wr_not; iterate 2 exact rfl) | (apply wr_cmp; (iterate 3 exact rfl); exact cmpT (by dsimp only [cmpP]; first | done | omega)) | (apply wr_cmp; (iterate 3 exact rfl); exact cmpF (by dsimp only [cmpN]; first | done | omega)) | (apply wr_pick (t := true); (iterate 2 exact rfl); with_reducible (conv => enter [6, 3]; whnf)) | (apply wr_pick (t := false); (iterate 2 exact rfl); with_reducible (conv => enter [6, 3]; whnf)) | (apply wr_add; (iterate 3 exact rfl); exact w_fit (by dsimp only [kIn]; first | done | omega)) | (apply wc_false; exact rfl) | (apply wr_skip; exact rfl))
        exact ⟨i + 1, by omega, ⟨by trivial, hlt, fun j y hj hy => by
          by_cases hji : j = i
          · subst hji; rw [hb] at hy; cases hy; rw [inSet_iff]; omega
          · exact hall j y (by omega) hy⟩, rfl, by simp, trivial⟩
      · by_cases c6 : b.toNat = 46
        · skip
          (repeat first | (apply wr_move; exact rfl; with_reducible (conv => enter [6, 3]; whnf)) | (apply wr_assign; exact rfl; with_reducible (conv => enter [6, 3]; whnf)) | apply wr_end | apply wc_seq | apply wc_region | apply wc_skip | (apply wr_not; iterate 2 exact rfl) | (apply wr_cmp; (iterate 3 exact rfl); exact cmpT (by dsimp only [cmpP]; first | done | omega)) | (apply wr_cmp; (iterate 3 exact rfl); exact cmpF (by dsimp only [cmpN]; first | done | omega)) | (apply wr_pick (t := true); (iterate 2 exact rfl); with_reducible (conv => enter [6, 3]; whnf)) | (apply wr_pick (t := false); (iterate 2 exact rfl); with_reducible (conv => enter [6, 3]; whnf)) | (apply wr_add; (iterate 3 exact rfl); exact w_fit (by dsimp only [kIn]; first | done | omega)) | (apply wc_false; exact rfl) | (apply wr_skip; exact rfl))
          exact ⟨i + 1, by omega, ⟨by trivial, hlt, fun j y hj hy => by
            by_cases hji : j = i
            · subst hji; rw [hb] at hy; cases hy; rw [inSet_iff]; omega
            · exact hall j y (by omega) hy⟩, rfl, by simp, trivial⟩
        · by_cases c7 : b.toNat = 47
          · skip
            (repeat first | (apply wr_move; exact rfl; with_reducible (conv => enter [6, 3]; whnf)) | (apply wr_assign; exact rfl; with_reducible (conv => enter [6, 3]; whnf)) | apply wr_end | apply wc_seq | apply wc_region | apply wc_skip | (apply wr_not; iterate 2 exact rfl) | (apply wr_cmp; (iterate 3 exact rfl); exact cmpT (by dsimp only [cmpP]; first | done | omega)) | (apply wr_cmp; (iterate 3 exact rfl); exact cmpF (by dsimp only [cmpN]; first | done | omega)) | (apply wr_pick (t := false); (iterate 2 exact rfl); with_reducible (conv => enter [6, 3]; whnf)) | (apply wr_add; (iterate 3 exact rfl); exact w_fit (by dsimp only [kIn]; first | done | omega)) | (apply wc_false; exact rfl) | (apply wr_skip; exact rfl))
            exact ⟨i + 1, by omega, ⟨by trivial, hlt, fun j y hj hy => by
              by_cases hji : j = i
              · subst hji; rw [hb] at hy; cases hy; rw [inSet_iff]; omega
              · exact hall j y (by omega) hy⟩, rfl, by simp, trivial⟩
          · (repeat first | (apply wr_move; exact rfl; with_reducible (conv => enter [6, 3]; whnf)) | (apply wr_assign; exact rfl; with_reducible (conv => enter [6, 3]; whnf)) | apply wr_end | apply wc_seq | apply wc_region | (apply wr_not; iterate 2 exact rfl) | (apply wr_cmp; (iterate 3 exact rfl); exact cmpF (by dsimp only [cmpN]; first | done | omega)) | (apply wr_pick (t := false); (iterate 2 exact rfl); with_reducible (conv => enter [6, 3]; whnf)) | (apply wc_true; exact rfl) | (apply wc_ret; try simp only [thenE, inBlockE, bodyQ]) | (apply wr_skip; exact rfl))
            refine leave1 (v := .bool false) rfl rfl ⟨by rw [decide_eq_false]; intro h; have := (inSet_iff b).1 (((nameOk_iff s).1 h).2.2 b (List.mem_of_getElem? hb)); omega, by trivial⟩
set_option maxRecDepth 100000 in
set_option maxHeartbeats 1000000 in
theorem refListed_ca (l : TX) (x : TT) (sl : Value) (w : World) (hsl : SlR w 1 sl l.length (SL l)) (hlen : l.length ≤ 8796093022000) :
    Ca Tryz.prog 68 #[sl, S x] w fun v w' => v = .bool (decide (x ∈ l)) ∧ w' = w := by
  obtain ⟨a, c, rfl, hc, hat⟩ := slr_strs hsl
  refine ca_of_body (args := [.slice a l.length c, S x]) Tryz.func68 rfl (by kernel_rfl) ?_
  (repeat first | (apply wr_assign; exact rfl; with_reducible (conv => enter [6, 3]; whnf)) | apply wr_end | apply wc_seq | apply wc_region | apply wc_block)
  refine wc_loopL (α := Nat) (fun i => [(0, .slice a l.length c), (1, S x), (5, .int .i64 (i : Int))])
    (fun i ds w' => (ds = [] ∧ w' = w) ∧ i ≤ l.length ∧ (∀ (j : Nat) y, j < i → l[j]? = some y → y ≠ x)) (fun i => l.length - i) 0 ⟨⟨rfl, rfl⟩, Nat.zero_le _, (fun j c h => by omega)⟩ ⟨rfl, rfl, rfl, trivial⟩ ?_
  rintro i ds f0 w2 ⟨⟨rfl, rfl⟩, hi, hno⟩
  by_cases hlt : i < l.length
  · obtain ⟨b, o, rfl, cur, e, fr, hb, hr⟩ := hat (by omega)
    obtain ⟨y, hy⟩ : ∃ y, l[i]? = some y := ⟨l[i], by simp [hlt]⟩
    have hy2 := hr i y hy
    (repeat first | (apply wr_move; exact rfl; with_reducible (conv => enter [6, 3]; whnf)) | apply wr_end | apply wc_seq | apply wc_region | apply wc_skip | apply wc_block | (apply wr_len_slice; iterate 2 exact rfl) | (apply wr_cmp; (iterate 3 exact rfl); exact cmpT (by dsimp only [cmpP]; first | done | omega)) | (apply wc_true; exact rfl))
    refine wr_indexAddr (i := i) rfl rfl rfl hlt ?_
    refine wr_load (v := S y) rfl rfl rfl hb hy2 ?_
    by_cases he : y = x
    · (repeat first | (apply wr_move; exact rfl; with_reducible (conv => enter [6, 3]; whnf)) | (apply wr_assign; exact rfl; with_reducible (conv => enter [6, 3]; whnf)) | apply wr_end | apply wc_seq | apply wc_region | (apply wr_streqc; (iterate 3 exact rfl); (first | exact decide_eq_true (by with_reducible assumption) | exact decide_eq_false (by with_reducible assumption) | exact decide_eq_true rfl | exact rfl)) | (apply wc_true; exact rfl) | (apply wc_ret; try simp only [thenE, inBlockE, bodyQ]))
      refine leave1 (v := .bool true) rfl rfl ⟨?_, by trivial⟩
      rw [decide_eq_true]
      rw [← he]
      exact List.mem_of_getElem? hy
    · (repeat first | (apply wr_move; exact rfl; with_reducible (conv => enter [6, 3]; whnf)) | (apply wr_assign; exact rfl; with_reducible (conv => enter [6, 3]; whnf)) | apply wr_end | apply wc_region | apply wc_skip | (apply wr_add; (iterate 3 exact rfl); exact w_fit (by dsimp only [kIn]; first | done | omega)) | (apply wr_streqc; (iterate 3 exact rfl); (first | exact decide_eq_true (by with_reducible assumption) | exact decide_eq_false (by with_reducible assumption) | exact decide_eq_true rfl | exact rfl)) | (apply wc_false; exact rfl))
      refine ⟨i + 1, by omega, ⟨by trivial, hlt, fun j c hj hc => ?_⟩, rfl, rfl, by simp, trivial⟩
      by_cases hji : j = i
      · subst hji; rw [hy] at hc; cases hc; exact he
      · exact hno j c (by omega) hc
  · have he : i = l.length := by omega
    subst he
    (repeat first | (apply wr_move; exact rfl; with_reducible (conv => enter [6, 3]; whnf)) | (apply wr_assign; exact rfl; with_reducible (conv => enter [6, 3]; whnf)) | apply wr_end | apply wc_seq | apply wc_region | (apply wr_len_slice; iterate 2 exact rfl) | (apply wr_cmp; (iterate 3 exact rfl); exact cmpF (by dsimp only [cmpN]; first | done | omega)) | (apply wc_false; exact rfl) | (apply wc_exit; try simp only [thenE, inBlockE, bodyQ, ↓reduceIte, Nat.reduceEqDiff]) | (apply wc_ret; try simp only [thenE, inBlockE, bodyQ]))
    refine leave1 (v := .bool false) rfl rfl ⟨?_, by trivial⟩
    rw [decide_eq_false]
    intro hx
    obtain ⟨j, hj⟩ := List.getElem?_of_mem hx
    exact hno j x (List.getElem?_eq_some_iff.1 hj).1 hj rfl
theorem sub_slr {w : World} {a : Option Addr} {n c : Nat} {l : TX} (h : SlR w 1 (.slice a n c) n (SL l)) (hn : l.length = n) {i j : Nat} (hij : i ≤ j) (hj : j ≤ n) :
    SlR w 1 (.slice (if c = i then a else a.map (·.add (i * 1))) (j - i) (c - i)) (j - i) (SL ((l.take j).drop i)) := by
  obtain ⟨hl, a', c', he, hcc, h⟩ := h
  cases he
  refine ⟨by rw [SL_len, List.length_drop, List.length_take]; omega, _, _, rfl, by omega, ?_⟩
  rcases h with ⟨h0, hz⟩ | ⟨b, o, cur, e, fr, rfl, hb, hr⟩
  · refine .inl ⟨by omega, ?_⟩
    by_cases hci : c = i
    · intro _; omega
    · rw [if_neg hci]
      intro e
      have : a = none := by simpa using e
      have := hz this
      omega
  · by_cases hz : j - i = 0
    · refine .inl ⟨hz, ?_⟩
      split <;> (intro e; simp at e)
    · refine .inr ⟨b, o + i * 1, cur, e, fr, ?_, hb, fun q hq => ?_⟩
      · rw [if_neg (by omega)]; simp [addr_add]
      · rw [show o + i * 1 + q = o + (i + q) by omega, hr (i + q) (by omega)]
        unfold SL
        rw [List.getElem?_map, List.getElem?_map, List.getElem?_drop, List.getElem?_take_of_lt (by omega)]
theorem SL_one (l : TX) : ∀ u ∈ SL l, u.oneCell' = true := by
  intro u hu
  simp only [SL, List.mem_map] at hu
  obtain ⟨x, _, rfl⟩ := hu
  rfl
/-- A name put at its place. -/
def withL (l : TX) (x : TT) : TX := if x ∈ l then l else l.takeWhile (fun y => decide (y < x)) ++ [x] ++ l.dropWhile (fun y => decide (y < x))
theorem takeWhile_at {l : TX} {x : TT} {i : Nat} (hi : i ≤ l.length) (hall : ∀ (j : Nat) y, j < i → l[j]? = some y → y < x) (hend : ∀ y, l[i]? = some y → ¬ y < x) :
    l.takeWhile (fun y => decide (y < x)) = l.take i ∧ l.dropWhile (fun y => decide (y < x)) = l.drop i := by
  induction l generalizing i with
  | nil => simp
  | cons y l ih =>
    cases i with
    | zero =>
      have := hend y rfl
      simp [this]
    | succ i =>
      have h1 := hall 0 y (by omega) rfl
      obtain ⟨e1, e2⟩ := ih (i := i) (by simpa using hi) (fun j z hj hz => hall (j + 1) z (by omega) (by simpa using hz)) (fun z hz => hend z (by simpa using hz))
      simp [h1, e1, e2]
set_option maxRecDepth 100000 in
set_option maxHeartbeats 2000000 in
theorem with_ca (l : TX) (x : TT) (sl : Value) (w : World) (hsl : SlR w 1 sl l.length (SL l)) (hlen : l.length ≤ 8796093021999) :
    Ca Tryz.prog 67 #[sl, S x] w fun v w' => SlR w' 1 v (withL l x).length (SL (withL l x)) ∧ Keeps NoB w w' := by
  obtain ⟨a, c, rfl, hc, hat⟩ := slr_strs hsl
  refine ca_of_body (args := [.slice a l.length c, S x]) Tryz.func67 rfl (by kernel_rfl) ?_
  (repeat first | (apply wr_move; exact rfl; with_reducible (conv => enter [6, 3]; whnf)) | (apply wr_assign; exact rfl; with_reducible (conv => enter [6, 3]; whnf)) | apply wr_end | apply wc_seq | apply wc_region)
  refine wr_call (vs := [.slice a l.length c, S x]) rfl (refListed_ca l x _ w hsl (by omega)) rfl ?_
  rintro v w1 ⟨rfl, rfl⟩
  by_cases hx : x ∈ l
  · rw [decide_eq_true hx]
    (repeat first | (apply wr_move; exact rfl; with_reducible (conv => enter [6, 3]; whnf)) | (apply wr_assign; exact rfl; with_reducible (conv => enter [6, 3]; whnf)) | apply wr_end | apply wc_seq | apply wc_region | (apply wc_true; exact rfl) | (apply wc_ret; try simp only [thenE, inBlockE, bodyQ]))
    exact leave1 (v := .slice a l.length c) rfl rfl ⟨by unfold withL; rw [if_pos hx]; exact hsl, Keeps.refl _ _⟩
  rw [decide_eq_false hx]
  (repeat first | (apply wr_move; exact rfl; with_reducible (conv => enter [6, 3]; whnf)) | (apply wr_assign; exact rfl; with_reducible (conv => enter [6, 3]; whnf)) | apply wr_end | apply wc_seq | apply wc_region | apply wc_skip | apply wc_block | (apply wc_false; exact rfl))
  refine wc_loopL (α := Nat) (fun i => [(0, .slice a l.length c), (1, S x), (6, .int .i64 (i : Int))])
    (fun i ds w' => (ds = [] ∧ w' = w1) ∧ i ≤ l.length ∧ (∀ (j : Nat) y, j < i → l[j]? = some y → y < x)) (fun i => l.length - i) 0 ⟨⟨rfl, rfl⟩, Nat.zero_le _, (fun j c h => by omega)⟩ ⟨rfl, rfl, rfl, trivial⟩ ?_
  rintro i ds f0 w2 ⟨⟨rfl, rfl⟩, hi, hno⟩
  have hend : (∀ y, l[i]? = some y → ¬ y < x) → withL l x = l.take i ++ [x] ++ l.drop i := fun h => by
    obtain ⟨e1, e2⟩ := takeWhile_at hi hno h
    unfold withL
    rw [if_neg hx, e1, e2]
  by_cases hgo : ∃ y, l[i]? = some y ∧ y < x
  · obtain ⟨y, hy, hyx⟩ := hgo
    have hlt := (List.getElem?_eq_some_iff.1 hy).1
    obtain ⟨b, o, rfl, cur, e, fr, hb, hr⟩ := hat (by omega)
    (repeat first | (apply wr_move; exact rfl; with_reducible (conv => enter [6, 3]; whnf)) | apply wc_seq | apply wc_region | (apply wr_len_slice; iterate 2 exact rfl) | (apply wr_cmp; (iterate 3 exact rfl); exact cmpT (by dsimp only [cmpP]; first | done | omega)))
    refine wr_indexAddr (i := i) rfl rfl rfl hlt ?_
    refine wr_load (v := S y) rfl rfl rfl hb (hr i y hy) ?_
    (repeat first | (apply wr_move; exact rfl; with_reducible (conv => enter [6, 3]; whnf)))
    refine wr_strcmp (a := y) (b := x) (c := true) rfl rfl rfl (.inl ⟨rfl, by rw [Go.Proofs.bytesLess_eq, decide_eq_true hyx]⟩) ?_
    (repeat first | (apply wr_move; exact rfl; with_reducible (conv => enter [6, 3]; whnf)) | (apply wr_assign; exact rfl; with_reducible (conv => enter [6, 3]; whnf)) | apply wr_end | apply wc_region | apply wc_skip | apply wc_block | (apply wr_pick (t := true); (iterate 2 exact rfl); with_reducible (conv => enter [6, 3]; whnf)) | (apply wr_add; (iterate 3 exact rfl); exact w_fit (by dsimp only [kIn]; first | done | omega)) | (apply wc_true; exact rfl) | (apply wr_nil; try simp only [thenE, inBlockE, bodyQ]))
    exact ⟨i + 1, by omega, ⟨by trivial, hlt, fun j z hj hz => by
      by_cases hji : j = i
      · subst hji; rw [hy] at hz; cases hz; exact hyx
      · exact hno j z (by omega) hz⟩, rfl, rfl, by simp, trivial⟩
  have hw := hend (fun y hy hyx => hgo ⟨y, hy, hyx⟩)
  by_cases hlt : i < l.length
  · obtain ⟨b, o, rfl, cur, e, fr, hb, hr⟩ := hat (by omega)
    obtain ⟨y, hy⟩ : ∃ y, l[i]? = some y := ⟨l[i], by simp [hlt]⟩
    have hyx : ¬ y < x := fun h => hgo ⟨y, hy, h⟩
    (repeat first | (apply wr_move; exact rfl; with_reducible (conv => enter [6, 3]; whnf)) | apply wc_seq | apply wc_region | (apply wr_len_slice; iterate 2 exact rfl) | (apply wr_cmp; (iterate 3 exact rfl); exact cmpT (by dsimp only [cmpP]; first | done | omega)))
    refine wr_indexAddr (i := i) rfl rfl rfl hlt ?_
    refine wr_load (v := S y) rfl rfl rfl hb (hr i y hy) ?_
    (repeat first | (apply wr_move; exact rfl; with_reducible (conv => enter [6, 3]; whnf)))
    refine wr_strcmp (a := y) (b := x) (c := false) rfl rfl rfl (.inl ⟨rfl, by rw [Go.Proofs.bytesLess_eq, decide_eq_false hyx]⟩) ?_
    (repeat first | (apply wr_move; exact rfl; with_reducible (conv => enter [6, 3]; whnf)) | (apply wr_assign; exact rfl; with_reducible (conv => enter [6, 3]; whnf)) | apply wr_end | apply wc_seq | apply wc_region | (apply wr_pick (t := true); (iterate 2 exact rfl); with_reducible (conv => enter [6, 3]; whnf)) | (apply wc_false; exact rfl) | (apply wc_exit; try simp only [thenE, inBlockE, bodyQ, ↓reduceIte, Nat.reduceEqDiff]))
    refine wr_sl_slice (i := 0) (j := i) rfl rfl (.inr ⟨_, rfl, by omega⟩) (.inl ⟨rfl, rfl⟩) ?_
    have hs1 := sub_slr hsl rfl (Nat.zero_le i) hi
    rw [Nat.sub_zero, Nat.sub_zero, List.drop_zero] at hs1
    rw [Nat.sub_zero, Nat.sub_zero]
    generalize hA1 : (.slice _ i c : Value) = A1 at hs1 ⊢
    refine wr_appendR (v := .slice none 0 0) (base := w2.heap.size) (n := 0) (m := i) (xs := []) (news := SL (l.take i)) rfl rfl (own_nil _ _ _ _) rfl hs1 (SL_one _) rfl (by decide) (by omega) (by omega) (by omega) ?_
    intro v3 w3 ho3 hk3 _
    rw [Nat.zero_add, List.nil_append] at ho3
    replace hk3 : Keeps NoB w2 w3 := hk3.mono (fun b _ e => by cases e)
    clear hA1
    (repeat first | (apply wr_move; exact rfl; with_reducible (conv => enter [6, 3]; whnf)) | (apply wr_assign; exact rfl; with_reducible (conv => enter [6, 3]; whnf)) | apply wr_end | apply wc_seq | apply wc_region)
    refine wr_buildSlice (vs := [S x]) rfl rfl (by intro v hv; simp at hv; subst hv; rfl) rfl (by decide) (by decide) (by decide) ?_
    refine wr_name ?_
    intro w4 hw4
    have hk4 : Keeps NoB w3 w4 := by rw [hw4]; exact (Keeps.refl NoB w3).alloc _
    have hc4 : w4.heap[w3.heap.size]? = some (.cells [S x].toArray 9 (0, 0)) := by rw [hw4]; exact heap_alloc_same _ _
    clear hw4
    have ho4 := own_keep ho3 hk4 (fun _ _ h => h)
    have hs3 := hk3.size
    have hs4 := hk4.size
    refine wr_append (v := v3) (base := w2.heap.size) (n := i) (m := 1) (xs := SL (l.take i)) (news := [S x]) rfl rfl ho4 rfl hc4 rfl (by intro u hu; simp at hu; subst hu; rfl) rfl (by decide) (by omega) (by omega) (by omega) ?_
    intro v5 w5 ho5 hk5 _
    have hs5 := hk5.size
    have hk25 : Keeps NoB w2 w5 := Keeps.trans' (hk3.trans hk4) hk5 (fun q hq e => by have := own_ge ho4 e; omega)
    (repeat first | (apply wr_move; exact rfl; with_reducible (conv => enter [6, 3]; whnf)) | (apply wr_assign; exact rfl; with_reducible (conv => enter [6, 3]; whnf)) | apply wr_end | apply wc_seq | apply wc_region)
    refine wr_sl_slice (i := i) (j := l.length) rfl rfl (.inl ⟨rfl, rfl⟩) (.inr ⟨_, rfl, hi⟩) ?_
    have hs2 := (sub_slr hsl rfl hi (Nat.le_refl _)).keep hk25 (fun _ _ h => h)
    rw [List.take_length] at hs2
    generalize hA2 : (.slice _ (l.length - i) (c - i) : Value) = A2 at hs2 ⊢
    refine wr_appendR (v := v5) (base := w2.heap.size) (n := i + 1) (m := l.length - i) (xs := SL (l.take i) ++ [S x]) (news := SL (l.drop i)) rfl rfl ho5 rfl hs2 (SL_one _) rfl (by decide) (by omega) (by omega) (by omega) ?_
    intro v6 w6 ho6 hk6 _
    (repeat first | (apply wr_assign; exact rfl; with_reducible (conv => enter [6, 3]; whnf)) | apply wr_end | (apply wc_ret; try simp only [thenE, inBlockE, bodyQ]))
    refine leave1 (v := v6) rfl rfl ⟨?_, Keeps.trans' hk25 hk6 (fun q hq e => by have := own_ge ho5 e; omega)⟩
    have e1 : (withL l x).length = i + 1 + (l.length - i) := by rw [hw]; simp; omega
    have e2 : SL (withL l x) = SL (l.take i) ++ [S x] ++ SL (l.drop i) := by rw [hw]; simp [SL]
    rw [e1, e2]
    exact SlR.of_own ho6
  · skip
    (repeat first | (apply wr_move; exact rfl; with_reducible (conv => enter [6, 3]; whnf)) | (apply wr_assign; exact rfl; with_reducible (conv => enter [6, 3]; whnf)) | apply wr_end | apply wc_seq | apply wc_region | (apply wr_len_slice; iterate 2 exact rfl) | (apply wr_cmp; (iterate 3 exact rfl); exact cmpF (by dsimp only [cmpN]; first | done | omega)) | (apply wr_pick (t := false); (iterate 2 exact rfl); with_reducible (conv => enter [6, 3]; whnf)) | (apply wc_false; exact rfl) | (apply wc_exit; try simp only [thenE, inBlockE, bodyQ, ↓reduceIte, Nat.reduceEqDiff]) | (apply wr_skip; exact rfl))
    refine wr_sl_slice (i := 0) (j := i) rfl rfl (.inr ⟨_, rfl, by omega⟩) (.inl ⟨rfl, rfl⟩) ?_
    have hs1 := sub_slr hsl rfl (Nat.zero_le i) hi
    rw [Nat.sub_zero, Nat.sub_zero, List.drop_zero] at hs1
    rw [Nat.sub_zero, Nat.sub_zero]
    generalize hA1 : (.slice _ i c : Value) = A1 at hs1 ⊢
    refine wr_appendR (v := .slice none 0 0) (base := w2.heap.size) (n := 0) (m := i) (xs := []) (news := SL (l.take i)) rfl rfl (own_nil _ _ _ _) rfl hs1 (SL_one _) rfl (by decide) (by omega) (by omega) (by omega) ?_
    intro v3 w3 ho3 hk3 _
    rw [Nat.zero_add, List.nil_append] at ho3
    replace hk3 : Keeps NoB w2 w3 := hk3.mono (fun b _ e => by cases e)
    clear hA1
    (repeat first | (apply wr_move; exact rfl; with_reducible (conv => enter [6, 3]; whnf)) | (apply wr_assign; exact rfl; with_reducible (conv => enter [6, 3]; whnf)) | apply wr_end | apply wc_seq | apply wc_region)
    refine wr_buildSlice (vs := [S x]) rfl rfl (by intro v hv; simp at hv; subst hv; rfl) rfl (by decide) (by decide) (by decide) ?_
    refine wr_name ?_
    intro w4 hw4
    have hk4 : Keeps NoB w3 w4 := by rw [hw4]; exact (Keeps.refl NoB w3).alloc _
    have hc4 : w4.heap[w3.heap.size]? = some (.cells [S x].toArray 9 (0, 0)) := by rw [hw4]; exact heap_alloc_same _ _
    clear hw4
    have ho4 := own_keep ho3 hk4 (fun _ _ h => h)
    have hs3 := hk3.size
    have hs4 := hk4.size
    refine wr_append (v := v3) (base := w2.heap.size) (n := i) (m := 1) (xs := SL (l.take i)) (news := [S x]) rfl rfl ho4 rfl hc4 rfl (by intro u hu; simp at hu; subst hu; rfl) rfl (by decide) (by omega) (by omega) (by omega) ?_
    intro v5 w5 ho5 hk5 _
    have hs5 := hk5.size
    have hk25 : Keeps NoB w2 w5 := Keeps.trans' (hk3.trans hk4) hk5 (fun q hq e => by have := own_ge ho4 e; omega)
    (repeat first | (apply wr_move; exact rfl; with_reducible (conv => enter [6, 3]; whnf)) | (apply wr_assign; exact rfl; with_reducible (conv => enter [6, 3]; whnf)) | apply wr_end | apply wc_seq | apply wc_region)
    refine wr_sl_slice (i := i) (j := l.length) rfl rfl (.inl ⟨rfl, rfl⟩) (.inr ⟨_, rfl, hi⟩) ?_
    have hs2 := (sub_slr hsl rfl hi (Nat.le_refl _)).keep hk25 (fun _ _ h => h)
    rw [List.take_length] at hs2
    generalize hA2 : (.slice _ (l.length - i) (c - i) : Value) = A2 at hs2 ⊢
    refine wr_appendR (v := v5) (base := w2.heap.size) (n := i + 1) (m := l.length - i) (xs := SL (l.take i) ++ [S x]) (news := SL (l.drop i)) rfl rfl ho5 rfl hs2 (SL_one _) rfl (by decide) (by omega) (by omega) (by omega) ?_
    intro v6 w6 ho6 hk6 _
    (repeat first | (apply wr_assign; exact rfl; with_reducible (conv => enter [6, 3]; whnf)) | apply wr_end | (apply wc_ret; try simp only [thenE, inBlockE, bodyQ]))
    refine leave1 (v := v6) rfl rfl ⟨?_, Keeps.trans' hk25 hk6 (fun q hq e => by have := own_ge ho5 e; omega)⟩
    have e1 : (withL l x).length = i + 1 + (l.length - i) := by rw [hw]; simp; omega
    have e2 : SL (withL l x) = SL (l.take i) ++ [S x] ++ SL (l.drop i) := by rw [hw]; simp [SL]
    rw [e1, e2]
    exact SlR.of_own ho6
end Go.Proofs.YtajajahofkialaaGreatDoor
