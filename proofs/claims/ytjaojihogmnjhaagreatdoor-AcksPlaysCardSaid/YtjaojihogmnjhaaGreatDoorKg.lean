/- acks: a list of refused versions: the search, the insertion. -/
import Derived.Test.YtjaojihogmnjhaaGreatDoorKf
import Derived.Test.YtjaojihogmnjhaaGreatDoorKc
namespace Go.Proofs.YtjaojihogmnjhaaGreatDoor
open Go Go.V Go.RowKit
set_option linter.unusedVariables false
set_option linter.unusedSimpArgs false

section ops
variable {P : Program} {ops : Array Oper} {Q : Post} {ds : List Deferred} {f : Env} {w w' : World} {rest : List Oper}
variable {d : Option Nat} {ty : TypeId} {pos : String} {af : Array Edge} {g : Option (Nat × Bool)}
theorem wr_cap_slice {t e : TypeId} {x : Operand} {a : Option Addr} {n c : Nat} [U : Und P t (.slice e)] (hw : wantedE ops f ⟨d, .call { callee := .builtin .cap, args := #[x], argTypes := #[t] }, ty, pos, af, g⟩ = true) (hx : ev f x = .slice a n c)
    (kk : Wr P ops Q ds rest (setO f d (.int .i64 (c : Int))) w) : Wr P ops Q ds (⟨d, .call { callee := .builtin .cap, args := #[x], argTypes := #[t] }, ty, pos, af, g⟩ :: rest) f w := by
  refine wr_val (v := .int .i64 (c : Int)) hw ?_ kk
  simp [execOp, resolve, invoke, builtin, Builtin.cap_, hx, run_und U, goInt]
theorem wr_slFrom {t e : TypeId} {z : Value} {size by' : Nat} {x lo : Operand} {gb o n c i : Nat} {k : IntKind} [U : Und P t (.slice e)] [I : Info P e z size by'] (hw : wantedE ops f ⟨d, .slice t x (some lo) none none, ty, pos, af, g⟩ = true) (hx : ev f x = .slice (some ⟨gb, o, none⟩) n c) (hy : ev f lo = .int k (i : Int))
    (hi : i ≤ n) (hic : i < c) (kk : Wr P ops Q ds rest (setO f d (.slice (some ⟨gb, o + i * size, none⟩) (n - i) (c - i))) w) : Wr P ops Q ds (⟨d, .slice t x (some lo) none none, ty, pos, af, g⟩ :: rest) f w := by
  refine wr_sl_slice (i := i) (j := n) hw hx (.inl ⟨rfl, rfl⟩) (.inr ⟨k, congrArg some hy, hi⟩) ?_
  rw [if_neg (by omega), Option.map_some, addr_add]
  exact kk
theorem wr_slTo {t e : TypeId} {z : Value} {size by' : Nat} {x hi : Operand} {gb o n c j : Nat} {k : IntKind} [U : Und P t (.slice e)] [I : Info P e z size by'] (hw : wantedE ops f ⟨d, .slice t x none (some hi) none, ty, pos, af, g⟩ = true) (hx : ev f x = .slice (some ⟨gb, o, none⟩) n c) (hy : ev f hi = .int k (j : Int))
    (hj : j ≤ c) (kk : Wr P ops Q ds rest (setO f d (.slice (some ⟨gb, o, none⟩) j c)) w) : Wr P ops Q ds (⟨d, .slice t x none (some hi) none, ty, pos, af, g⟩ :: rest) f w := by
  refine wr_sl_slice (i := 0) (j := j) hw hx (.inr ⟨k, congrArg some hy, hj⟩) (.inl ⟨rfl, rfl⟩) ?_
  rw [Option.map_some, addr_add, Nat.zero_mul, Nat.add_zero, ite_self, Nat.sub_zero, Nat.sub_zero]
  exact kk
end ops
theorem nmin_l {a b : Nat} (h : a ≤ b) : Nat.min a b = a := Nat.min_eq_left h
theorem nmin_r {a b : Nat} (h : b ≤ a) : Nat.min a b = b := Nat.min_eq_right h
theorem flat_take {α β : Type} {g : α → List β} {k : Nat} (hk : ∀ a, (g a).length = k) (l : List α) (i : Nat) (hi : i ≤ l.length) : (l.take i).flatMap g = (l.flatMap g).take (i * k) ∧ (l.drop i).flatMap g = (l.flatMap g).drop (i * k) := by
  have h : l.flatMap g = (l.take i).flatMap g ++ (l.drop i).flatMap g := by rw [← List.flatMap_append, List.take_append_drop]
  have hl : ((l.take i).flatMap g).length = i * k := by rw [flat_len hk, List.length_take, Nat.min_eq_left hi]
  constructor
  · rw [h, List.take_left' hl]
  · rw [h, List.drop_left' hl]
theorem ins_get {α : Type} (P X : List α) (p j : Nat) (hp : p ≤ P.length) : (P.take p ++ X ++ P.drop p)[j]? = if j < p then P[j]? else if j < p + X.length then X[j - p]? else P[j - X.length]? := by
  by_cases h1 : j < p
  · rw [if_pos h1, List.append_assoc, List.getElem?_append_left (by rw [List.length_take]; omega), List.getElem?_take_of_lt h1]
  · rw [if_neg h1]
    by_cases h2 : j < p + X.length
    · rw [if_pos h2, List.getElem?_append_left (by rw [List.length_append, List.length_take]; omega), List.getElem?_append_right (by rw [List.length_take]; omega), List.length_take, Nat.min_eq_left (by omega)]
    · rw [if_neg h2, List.getElem?_append_right (by rw [List.length_append, List.length_take]; omega), List.length_append, List.length_take, Nat.min_eq_left (by omega), List.getElem?_drop]
      congr 1; omega
/-- A refused version: which, the detail, whether told. -/
abbrev BD := Nat × TT × Bool
def GB (x : BD) : List Value := [.int .u64 ((x.1 : Nat) : Int), S x.2.1, .bool x.2.2]
theorem GB_len (x : BD) : (GB x).length = 3 := rfl
theorem GB_one (x : BD) : ∀ u ∈ GB x, u.oneCell' = true := by
  intro u hu
  simp only [GB, List.mem_cons, List.not_mem_nil, or_false] at hu
  rcases hu with rfl | rfl | rfl <;> rfl
theorem GBs_one (l : List BD) : ∀ u ∈ l.flatMap GB, u.oneCell' = true := by
  intro u hu
  obtain ⟨x, _, hx⟩ := List.mem_flatMap.1 hu
  exact GB_one x u hx
theorem nanU_ca (x : Nat) (w : World) : Ca Tryz.prog 53 #[.int .u64 (x : Int)] w fun v w' => v = .bool false ∧ w' = w := by
  refine ca_of_body (args := [.int .u64 (x : Int)]) Tryz.func53 rfl (by kernel_rfl) ?_
  (repeat first | (apply wr_move; exact rfl; with_reducible (conv => enter [6, 3]; whnf)) | (apply wr_assign; exact rfl; with_reducible (conv => enter [6, 3]; whnf)) | apply wr_end | apply wc_seq | apply wc_region | (apply wr_cmp; (iterate 3 exact rfl); exact cmpF (by dsimp only [cmpN]; first | done | omega)) | (apply wc_ret; try simp only [thenE, inBlockE, bodyQ]))
  exact leave1 (v := .bool false) rfl rfl ⟨rfl, by trivial⟩
set_option maxRecDepth 100000 in
theorem cmpU_ca (x y : Nat) (w : World) : Ca Tryz.prog 37 #[.int .u64 (x : Int), .int .u64 (y : Int)] w fun v w' => v = .int .i64 (cmpI x y) ∧ w' = w := by
  refine ca_of_body (args := [.int .u64 (x : Int), .int .u64 (y : Int)]) Tryz.func37 rfl (by kernel_rfl) ?_
  (repeat first | (apply wr_move; exact rfl; with_reducible (conv => enter [6, 3]; whnf)) | (apply wr_assign; exact rfl; with_reducible (conv => enter [6, 3]; whnf)) | apply wr_end | apply wc_seq | apply wc_region)
  refine wr_call (vs := [.int .u64 (x : Int)]) rfl (nanU_ca x w) rfl ?_
  rintro v w1 ⟨rfl, rfl⟩
  (repeat first | (apply wr_move; exact rfl; with_reducible (conv => enter [6, 3]; whnf)) | (apply wr_assign; exact rfl; with_reducible (conv => enter [6, 3]; whnf)) | apply wr_end | apply wc_seq | apply wc_region)
  refine wr_call (vs := [.int .u64 (y : Int)]) rfl (nanU_ca y w1) rfl ?_
  rintro v w2 ⟨rfl, rfl⟩
  by_cases h1 : (x : Int) < y
  · (repeat first | (apply wr_move; exact rfl; with_reducible (conv => enter [6, 3]; whnf)) | (apply wr_assign; exact rfl; with_reducible (conv => enter [6, 3]; whnf)) | apply wr_end | apply wc_seq | apply wc_region | apply wc_skip | (apply wr_cmp; (iterate 3 exact rfl); exact cmpT (by dsimp only [cmpP]; first | done | omega)) | (apply wc_true; exact rfl) | (apply wc_false; exact rfl) | (apply wc_ret; try simp only [thenE, inBlockE, bodyQ]))
    exact leave1 (v := .int .i64 (-1)) rfl rfl ⟨by unfold cmpI; rw [if_pos h1], by trivial⟩
  · by_cases h2 : (y : Int) < x
    · (repeat first | (apply wr_move; exact rfl; with_reducible (conv => enter [6, 3]; whnf)) | (apply wr_assign; exact rfl; with_reducible (conv => enter [6, 3]; whnf)) | apply wr_end | apply wc_seq | apply wc_region | apply wc_skip | (apply wr_cmp; (iterate 3 exact rfl); exact cmpT (by dsimp only [cmpP]; first | done | omega)) | (apply wr_cmp; (iterate 3 exact rfl); exact cmpF (by dsimp only [cmpN]; first | done | omega)) | (apply wc_true; exact rfl) | (apply wc_false; exact rfl) | (apply wc_ret; try simp only [thenE, inBlockE, bodyQ]))
      exact leave1 (v := .int .i64 1) rfl rfl ⟨by unfold cmpI; rw [if_neg h1, if_pos h2], by trivial⟩
    · (repeat first | (apply wr_move; exact rfl; with_reducible (conv => enter [6, 3]; whnf)) | (apply wr_assign; exact rfl; with_reducible (conv => enter [6, 3]; whnf)) | apply wr_end | apply wc_seq | apply wc_region | apply wc_skip | (apply wr_cmp; (iterate 3 exact rfl); exact cmpF (by dsimp only [cmpN]; first | done | omega)) | (apply wc_false; exact rfl) | (apply wc_ret; try simp only [thenE, inBlockE, bodyQ]))
      exact leave1 (v := .int .i64 0) rfl rfl ⟨by unfold cmpI; rw [if_neg h1, if_neg h2], by trivial⟩
set_option maxRecDepth 100000 in
theorem refuse1_ca (x : BD) (q : Nat) (w : World) : Ca Tryz.prog 36 #[.agg (GB x).toArray, .int .u64 (q : Int)] w fun v w' => v = .int .i64 (cmpI x.1 q) ∧ Keeps NoB w w' := by
  refine ca_of_body (args := [.agg (GB x).toArray, .int .u64 (q : Int)]) Tryz.func36 rfl (by kernel_rfl) ?_
  obtain ⟨s, d, t⟩ := x
  apply wc_seq
  apply wc_region
  refine wr_box (v := .agg (GB (s, d, t)).toArray) rfl rfl ?_
  refine wr_name ?_
  intro w1 hw1
  obtain ⟨b1, hb1⟩ : ∃ b1, b1 = w.heap.size := ⟨_, rfl⟩
  have hk1 : Keeps NoB w w1 := by rw [hw1]; exact (Keeps.refl NoB w).alloc _
  have hc1 : w1.heap[b1]? = some (.cells #[.int .u64 (s : Int), S d, .bool t] 66 (0, 0)) := by rw [hw1, hb1]; exact heap_alloc_same _ _
  rw [← hb1]
  clear hw1
  (repeat first | (apply wr_move; exact rfl; with_reducible (conv => enter [6, 3]; whnf)) | (apply wr_assign; exact rfl; with_reducible (conv => enter [6, 3]; whnf)) | apply wr_end | apply wc_seq | apply wc_region | (apply wr_fieldAddr; iterate 2 exact rfl) | (apply wr_load; (iterate 3 exact rfl); (focus repeat first | with_reducible assumption | exact heap_alloc_same _ _ | exact World.putObj_heap_same (by first | omega | (simp only [World.size_alloc, World.putObj_size, ne_eq]; omega)) | ((first | refine hAl ?_ ?_ | refine hPu ?_ ?_); focus first | omega | (simp only [World.size_alloc, World.putObj_size, ne_eq]; omega))); exact rfl; conv => enter [6, 3]; whnf))
  refine wr_call (vs := [.int .u64 (s : Int), .int .u64 (q : Int)]) rfl (cmpU_ca s q _) rfl ?_
  rintro v w2 ⟨rfl, rfl⟩
  (repeat first | (apply wr_assign; exact rfl; with_reducible (conv => enter [6, 3]; whnf)) | apply wr_end | (apply wc_ret; try simp only [thenE, inBlockE, bodyQ]))
  exact leave1 (v := .int .i64 (cmpI s q)) rfl rfl ⟨rfl, hk1⟩
set_option maxRecDepth 100000 in
set_option maxHeartbeats 2000000 in
theorem bsearch_ca (l : List BD) (v : Value) (q : Nat) (w : World) (hsl : SlR w 3 v l.length (l.flatMap GB)) (hlen : l.length ≤ 1000) (hsort : l.Pairwise fun a b => a.1 < b.1) :
    Ca Tryz.prog 35 #[v, .int .u64 (q : Int), .func (.func 36) #[] #[]] w fun r w' =>
      (∃ i : Nat, i ≤ l.length ∧ (∀ p x, l[p]? = some x → (x.1 < q ↔ p < i)) ∧ r = .tuple #[.int .i64 (i : Int), .bool (decide (∃ x, l[i]? = some x ∧ x.1 = q))]) ∧ Keeps NoB w w' := by
  obtain ⟨a, c, rfl, hc, hat⟩ := hsl.shape
  have hsrt : ∀ (p r : Nat) (x y : BD), p < r → l[p]? = some x → l[r]? = some y → x.1 < y.1 := fun p r x y hpr hx hy => by
    obtain ⟨h1, rfl⟩ := List.getElem?_eq_some_iff.1 hx
    obtain ⟨h2, rfl⟩ := List.getElem?_eq_some_iff.1 hy
    exact List.pairwise_iff_getElem.1 hsort p r h1 h2 hpr
  refine ca_of_body (args := [.slice a l.length c, .int .u64 (q : Int), .func (.func 36) #[] #[]]) Tryz.func35 rfl (by kernel_rfl) ?_
  (repeat first | (apply wr_move; exact rfl; with_reducible (conv => enter [6, 3]; whnf)) | (apply wr_assign; exact rfl; with_reducible (conv => enter [6, 3]; whnf)) | apply wr_end | apply wc_seq | apply wc_region | apply wc_block | (apply wr_len_slice; iterate 2 exact rfl))
  refine wc_loopL (α := Nat × Nat) (fun p => [(0, .slice a l.length c), (1, .int .u64 (q : Int)), (2, .func (.func 36) #[] #[]), (8, .int .i64 (l.length : Int)), (9, .int .i64 (p.1 : Int)), (10, .int .i64 (p.2 : Int))])
    (fun p ds w' => ds = [] ∧ p.1 ≤ p.2 ∧ p.2 ≤ l.length ∧ (∀ r x, l[r]? = some x → r < p.1 → x.1 < q) ∧ (∀ r x, l[r]? = some x → p.2 ≤ r → q ≤ x.1) ∧ Keeps NoB w w') (fun p => p.2 - p.1) (0, l.length)
    ⟨rfl, Nat.zero_le _, Nat.le_refl _, fun r x _ h => absurd h (Nat.not_lt_zero r), fun r x h hr => by have h9 : r < l.length := (List.getElem?_eq_some_iff.1 h).1; dsimp only at hr; omega, Keeps.refl _ _⟩ ⟨rfl, rfl, rfl, rfl, rfl, rfl, trivial⟩ ?_
  rintro ⟨i, j⟩ ds f0 w2 ⟨rfl, hij, hjn, hlo, hhi, hk2⟩
  dsimp only at hij hjn hlo hhi ⊢
  by_cases hlt : i < j
  · obtain ⟨h, hh⟩ : ∃ h, h = (i + j) / 2 := ⟨_, rfl⟩
    have hhl : h < l.length := by omega
    obtain ⟨x, hx⟩ : ∃ x, l[h]? = some x := ⟨l[h], by simp [hhl]⟩
    obtain ⟨b, o, rfl, cur, e, fr, hb, hr⟩ := hat (by omega)
    have hb2 := hk2.heap hb (fun h => h)
    (repeat first | (apply wr_move; exact rfl; with_reducible (conv => enter [6, 3]; whnf)) | apply wr_end | apply wc_seq | apply wc_region | apply wc_skip | apply wc_block | (apply wr_cmp; (iterate 3 exact rfl); exact cmpT (by dsimp only [cmpP]; first | done | omega)) | (apply wr_add; (iterate 3 exact rfl); exact w_fit (by dsimp only [kIn]; first | done | omega)) | (apply wr_conv; (iterate 2 exact rfl); exact w_fit (by dsimp only [kIn]; first | done | omega)) | (apply wc_true; exact rfl))
    refine wr_shrN (n := i + j) 1 rfl rfl rfl (by decide) ?_
    rw [show (i + j) / 2 ^ 1 = h by rw [hh]]
    (repeat first | (apply wr_move; exact rfl; with_reducible (conv => enter [6, 3]; whnf)) | (apply wr_assign; exact rfl; with_reducible (conv => enter [6, 3]; whnf)) | apply wr_end | apply wc_seq | apply wc_region | (apply wr_conv; (iterate 2 exact rfl); exact w_fit (by dsimp only [kIn]; first | done | omega)))
    refine wr_indexAddr (i := h) rfl rfl rfl hhl ?_
    refine wr_loadElem (G := GB) (n := l.length) rfl rfl GB_len rfl hb2 hr hhl hx rfl ?_
    (repeat first | (apply wr_move; exact rfl; with_reducible (conv => enter [6, 3]; whnf)))
    refine wr_callv (vs := [.agg (GB x).toArray, .int .u64 (q : Int)]) rfl (callV_func (first := #[]) (cap := #[]) (by kernel_rfl) (refuse1_ca x q w2)) rfl rfl ?_
    rintro v w3 ⟨rfl, hk3⟩
    by_cases hxq : x.1 < q
    · have h1 : cmpI x.1 q = -1 := by unfold cmpI; rw [if_pos (by omega)]
      rw [h1]
      (repeat first | (apply wr_move; exact rfl; with_reducible (conv => enter [6, 3]; whnf)) | (apply wr_assign; exact rfl; with_reducible (conv => enter [6, 3]; whnf)) | apply wr_end | apply wc_region | (apply wr_cmp; (iterate 3 exact rfl); exact cmpT (by dsimp only [cmpP]; first | done | omega)) | (apply wr_add; (iterate 3 exact rfl); exact w_fit (by dsimp only [kIn]; first | done | omega)) | (apply wc_true; exact rfl) | (apply wr_nil; try simp only [thenE, inBlockE, bodyQ]))
      refine ⟨(h + 1, j), by dsimp only; omega, ⟨by trivial, by dsimp only; omega, hjn, fun r y hy hr => ?_, hhi, hk2.trans hk3⟩, rfl, rfl, rfl, rfl, rfl, rfl, trivial⟩
      dsimp only at hr
      rcases Nat.lt_or_ge r h with h2 | h2
      · have := hsrt r h y x h2 hy hx
        omega
      · have : r = h := by omega
        subst this
        rw [hx] at hy; cases hy; exact hxq
    · have h1 : 0 ≤ cmpI x.1 q := by unfold cmpI; rw [if_neg (by omega)]; split <;> omega
      (repeat first | (apply wr_move; exact rfl; with_reducible (conv => enter [6, 3]; whnf)) | (apply wr_assign; exact rfl; with_reducible (conv => enter [6, 3]; whnf)) | apply wr_end | apply wc_region | (apply wr_cmp; (iterate 3 exact rfl); exact cmpF (by dsimp only [cmpN]; first | done | omega)) | (apply wc_false; exact rfl) | (apply wr_nil; try simp only [thenE, inBlockE, bodyQ]))
      refine ⟨(i, h), by dsimp only; omega, ⟨by trivial, by dsimp only; omega, by dsimp only; omega, hlo, fun r y hy hr => ?_, hk2.trans hk3⟩, rfl, rfl, rfl, rfl, rfl, rfl, trivial⟩
      dsimp only at hr
      rcases Nat.lt_or_ge h r with h2 | h2
      · have := hsrt h r x y h2 hx hy
        omega
      · have : r = h := by omega
        subst this
        rw [hx] at hy; cases hy; omega
  · have hij' : i = j := by omega
    subst hij'
    have hspec : ∀ (p : Nat) (x : BD), l[p]? = some x → (x.1 < q ↔ p < i) := fun p x hx => ⟨fun h => by
      rcases Nat.lt_or_ge p i with h1 | h1
      · exact h1
      · have := hhi p x hx h1
        omega, hlo p x hx⟩
    by_cases hin : i < l.length
    · obtain ⟨x, hx⟩ : ∃ x, l[i]? = some x := ⟨l[i], by simp [hin]⟩
      obtain ⟨b, o, rfl, cur, e, fr, hb, hr⟩ := hat (by omega)
      have hb2 := hk2.heap hb (fun h => h)
      (repeat first | (apply wr_move; exact rfl; with_reducible (conv => enter [6, 3]; whnf)) | apply wr_end | apply wc_seq | apply wc_region | (apply wr_cmp; (iterate 3 exact rfl); exact cmpT (by dsimp only [cmpP]; first | done | omega)) | (apply wr_cmp; (iterate 3 exact rfl); exact cmpF (by dsimp only [cmpN]; first | done | omega)) | (apply wc_false; exact rfl) | (apply wc_exit; try simp only [thenE, inBlockE, bodyQ, ↓reduceIte, Nat.reduceEqDiff]))
      refine wr_indexAddr (i := i) rfl rfl rfl hin ?_
      refine wr_loadElem (G := GB) (n := l.length) rfl rfl GB_len rfl hb2 hr hin hx rfl ?_
      (repeat first | (apply wr_move; exact rfl; with_reducible (conv => enter [6, 3]; whnf)))
      refine wr_callv (vs := [.agg (GB x).toArray, .int .u64 (q : Int)]) rfl (callV_func (first := #[]) (cap := #[]) (by kernel_rfl) (refuse1_ca x q w2)) rfl rfl ?_
      rintro v w3 ⟨rfl, hk3⟩
      by_cases hxq : x.1 = q
      · have h1 : cmpI x.1 q = 0 := by unfold cmpI; rw [if_neg (by omega), if_neg (by omega)]
        rw [h1]
        (repeat first | (apply wr_assign; exact rfl; with_reducible (conv => enter [6, 3]; whnf)) | apply wr_end | (apply wr_cmp; (iterate 3 exact rfl); exact cmpT (by dsimp only [cmpP]; first | done | omega)) | (apply wr_pick (t := true); (iterate 2 exact rfl); with_reducible (conv => enter [6, 3]; whnf)) | (apply wc_ret; try simp only [thenE, inBlockE, bodyQ]))
        exact leave2 (v1 := .int .i64 (i : Int)) (v2 := .bool true) rfl rfl rfl ⟨⟨i, hjn, hspec, by rw [decide_eq_true ⟨x, hx, hxq⟩]⟩, hk2.trans hk3⟩
      · have h1 : cmpI x.1 q ≠ 0 := by
          unfold cmpI
          split
          · omega
          · split <;> omega
        have hd : ¬ ∃ x, l[i]? = some x ∧ x.1 = q := by
          rintro ⟨y, hy, hyq⟩
          rw [hx] at hy; cases hy; exact hxq hyq
        (repeat first | (apply wr_assign; exact rfl; with_reducible (conv => enter [6, 3]; whnf)) | apply wr_end | (apply wr_cmp; (iterate 3 exact rfl); exact cmpF (by dsimp only [cmpN]; first | done | omega)) | (apply wr_pick (t := true); (iterate 2 exact rfl); with_reducible (conv => enter [6, 3]; whnf)) | (apply wc_ret; try simp only [thenE, inBlockE, bodyQ]))
        exact leave2 (v1 := .int .i64 (i : Int)) (v2 := .bool false) rfl rfl rfl ⟨⟨i, hjn, hspec, by rw [decide_eq_false hd]⟩, hk2.trans hk3⟩
    · have hd : ¬ ∃ x, l[i]? = some x ∧ x.1 = q := by
        rintro ⟨y, hy, _⟩
        exact hin (List.getElem?_eq_some_iff.1 hy).1
      (repeat first | (apply wr_move; exact rfl; with_reducible (conv => enter [6, 3]; whnf)) | (apply wr_assign; exact rfl; with_reducible (conv => enter [6, 3]; whnf)) | apply wr_end | apply wc_seq | apply wc_region | (apply wr_cmp; (iterate 3 exact rfl); exact cmpF (by dsimp only [cmpN]; first | done | omega)) | (apply wr_pick (t := false); (iterate 2 exact rfl); with_reducible (conv => enter [6, 3]; whnf)) | (apply wc_false; exact rfl) | (apply wc_exit; try simp only [thenE, inBlockE, bodyQ, ↓reduceIte, Nat.reduceEqDiff]) | (apply wc_ret; try simp only [thenE, inBlockE, bodyQ]) | (apply wr_skip; exact rfl))
      exact leave2 (v1 := .int .i64 (i : Int)) (v2 := .bool false) rfl rfl rfl ⟨⟨i, hjn, hspec, by rw [decide_eq_false hd]⟩, hk2⟩
abbrev BadT : TypeId := 66
theorem hov_ca {w : World} {vb gb o lb cb : Nat} {cv cur : Array Value} {T1 T2 : TypeId} (hv : w.heap[vb]? = some (.cells cv T1 (0, 0))) (hg : w.heap[gb]? = some (.cells cur T2 (0, 0))) (hne : vb ≠ gb) (hs : cur.size ≠ 0) :
    (callFunc 54 #[.slice (some ⟨vb, 0, none⟩) 1 1, .slice (some ⟨gb, o, none⟩) lb cb]).run Tryz.prog w = .ok (.value (.bool false)) w := by
  have hsz : ∀ w, (Go.sizeOf BadT).run Tryz.prog w = .ok 3 w := fun w => run_sizeOf' (P := Tryz.prog) (t := BadT) inferInstance
  rw [run_callFunc_extern Tryz.func54 (by kernel_rfl) (by kernel_rfl) (by kernel_rfl) (e := Extern.SlicesOverlaps.overlaps #[61, 61] #[4]) (by kernel_rfl),
    Lib.run_overlaps_apart w 61 4 BadT Tryz.underlying61 3 hsz ⟨vb, 0, none⟩ ⟨gb, o, none⟩ 1 1 lb cb hne T1 T2 cv.size cur.size (by simp [World.shape?, hv]) (by simp [World.shape?, hg]) hs (frozen_of_heap hv) (frozen_of_heap hv)]
  rfl
set_option maxRecDepth 100000 in
set_option maxHeartbeats 4000000 in
theorem insert_ca (base : Nat) (l : List BD) (v : Value) (i : Nat) (x : BD) (vb : Nat) (w : World) (hown : OwnS w base BadT 3 v l.length (l.flatMap GB)) (hi : i ≤ l.length) (hlen : l.length ≤ 1000) (hvb : w.heap[vb]? = some (.cells (GB x).toArray BadT (0, 0))) (hne : v.ownBlock ≠ some vb) (hbase : base ≤ w.heap.size) :
    Ca Tryz.prog 38 #[v, .int .i64 (i : Int), .slice (some ⟨vb, 0, none⟩) 1 1] w fun r w' =>
      OwnS w' base BadT 3 r (l.length + 1) ((l.take i ++ x :: l.drop i).flatMap GB) ∧ Keeps (fun k => v.ownBlock = some k) w w' ∧ (r.ownBlock = v.ownBlock ∨ ∃ k, r.ownBlock = some k ∧ w.heap.size ≤ k) := by
  have hfl := flat_len GB_len l
  have hXS : (l.take i ++ x :: l.drop i).flatMap GB = (l.flatMap GB).take (i * 3) ++ GB x ++ (l.flatMap GB).drop (i * 3) := by
    rw [List.flatMap_append, List.flatMap_cons, (flat_take GB_len l i hi).1, (flat_take GB_len l i hi).2, List.append_assoc]
  have hXl : ((l.take i ++ x :: l.drop i).flatMap GB).length = (l.length + 1) * 3 := by
    rw [flat_len GB_len]; simp; omega
  have hg9 := ins_get (l.flatMap GB) (GB x) (i * 3)
  obtain ⟨a, c, hva⟩ : ∃ a c, v = .slice a l.length c := by
    rcases hown.2 with ⟨rfl, h0⟩ | ⟨g, o, cap, cur, rfl, _⟩
    · exact ⟨none, 0, by rw [h0]⟩
    · exact ⟨_, _, rfl⟩
  have hcap : l.length ≤ c := by
    rcases hown.2 with ⟨h0, h1⟩ | ⟨g, o, cap, cur, h0, _, _, h1, _⟩
    · omega
    · rw [hva] at h0; cases h0; exact h1
  subst hva
  refine ca_of_body (args := [.slice a l.length c, .int .i64 (i : Int), .slice (some ⟨vb, 0, none⟩) 1 1]) Tryz.func38 rfl (by kernel_rfl) ?_
  (repeat first | (apply wr_move; exact rfl; with_reducible (conv => enter [6, 3]; whnf)) | (apply wr_assign; exact rfl; with_reducible (conv => enter [6, 3]; whnf)) | apply wr_end | apply wc_seq | apply wc_region)
  refine wr_sl_slice (i := i) (j := l.length) rfl rfl (.inl ⟨rfl, rfl⟩) (.inr ⟨_, rfl, hi⟩) ?_
  by_cases hin : i = l.length
  · subst hin
    (repeat first | (apply wr_move; exact rfl; with_reducible (conv => enter [6, 3]; whnf)) | (apply wr_assign; exact rfl; with_reducible (conv => enter [6, 3]; whnf)) | apply wr_end | apply wc_seq | apply wc_region | apply wc_skip | (apply wr_len_slice; iterate 2 exact rfl) | (apply wr_cmp; (iterate 3 exact rfl); exact cmpT (by dsimp only [cmpP]; first | done | omega)) | (apply wr_cmp; (iterate 3 exact rfl); exact cmpF (by dsimp only [cmpN]; first | done | omega)) | (apply wc_true; exact rfl) | (apply wc_false; exact rfl))
    refine wr_appendO (v := .slice a l.length c) (n := l.length) (m := 1) (news := GB x) rfl rfl hown rfl hvb (by decide) rfl (GB_one x) rfl (by decide) (by omega) (by omega) hbase ?_
    intro r w1 ho1 hk1 hr1
    (repeat first | (apply wr_assign; exact rfl; with_reducible (conv => enter [6, 3]; whnf)) | apply wr_end | (apply wc_ret; try simp only [thenE, inBlockE, bodyQ]))
    refine leave1 (v := r) rfl rfl ⟨?_, hk1, hr1.imp_right fun h => ⟨_, h, Nat.le_refl _⟩⟩
    rw [hXS, show l.length * 3 = (l.flatMap GB).length from hfl.symm, List.take_length, List.drop_length, List.append_nil]
    exact ho1
  have hin' : i < l.length := by omega
  obtain ⟨gb, o, cap, cur, he, hgb, hgc, hnc, hcm, hsz, hrd⟩ : ∃ g o cap cur, Value.slice a l.length c = .slice (some ⟨g, o, none⟩) l.length cap ∧ base ≤ g ∧ w.heap[g]? = some (.cells cur BadT (0, 0)) ∧ l.length ≤ cap ∧ cap ≤ maxLen ∧ o + cap * 3 ≤ cur.size ∧ ∀ j, j < l.length * 3 → cur[o + j]? = (l.flatMap GB)[j]? := by
    rcases hown.2 with ⟨_, h1⟩ | h
    · omega
    · exact h
  cases he
  have hcm' : c ≤ 9223372036854775807 := hcm
  have hne' : vb ≠ gb := fun e => hne (by rw [e]; rfl)
  by_cases hroom : l.length + 1 ≤ c
  rotate_left
  · have hcl : c = l.length := by omega
    subst hcl
    (repeat first | (apply wr_move; exact rfl; with_reducible (conv => enter [6, 3]; whnf)) | (apply wr_assign; exact rfl; with_reducible (conv => enter [6, 3]; whnf)) | apply wr_end | apply wc_seq | apply wc_region | apply wc_skip | (apply wr_len_slice; iterate 2 exact rfl) | (apply wr_cmp; (iterate 3 exact rfl); exact cmpF (by dsimp only [cmpN]; first | done | omega)) | (apply wr_add; (iterate 3 exact rfl); exact w_fit (by dsimp only [kIn]; first | done | omega)) | (apply wc_false; exact rfl))
    refine wr_cap_slice rfl rfl ?_
    (repeat first | (apply wr_move; exact rfl; with_reducible (conv => enter [6, 3]; whnf)) | apply wr_end | apply wc_seq | apply wc_region | (apply wr_cmp; (iterate 3 exact rfl); exact cmpT (by dsimp only [cmpP]; first | done | omega)) | (apply wc_true; exact rfl))
    refine wr_slTo (j := i) rfl rfl rfl (by omega) ?_
    (repeat first | (apply wr_move; exact rfl; with_reducible (conv => enter [6, 3]; whnf)) | (apply wr_add; (iterate 3 exact rfl); exact w_fit (by dsimp only [kIn]; first | done | omega)) | (apply wr_sub; (iterate 3 exact rfl); exact w_fit (by dsimp only [kIn]; first | done | omega)))
    refine wr_appendZ (k := .i64) (n := i) (m := l.length + 1 - i) (olds := (l.flatMap GB).take (i * 3)) rfl rfl (by show Value.int .i64 ((l.length : Int) + 1 - (i : Int)) = .int .i64 ((l.length + 1 - i : Nat) : Int); congr 1; omega) hgc (by rw [List.length_take]; omega) (fun j hj => by rw [hrd j (by omega), List.getElem?_take_of_lt hj]) (by decide) (by omega) (by omega) (by omega) (by omega) ?_
    intro c' hc1 hc2
    have hc2' : c' ≤ 9223372036854775807 := hc2
    rw [show i + (l.length + 1 - i) = l.length + 1 by omega] at hc1 ⊢
    refine wr_name ?_
    intro w1 hw1
    obtain ⟨nb, hnb⟩ : ∃ b, b = w.heap.size := ⟨_, rfl⟩
    generalize hcn : ((l.flatMap GB).take (i * 3)).toArray ++ Builtin.zeroCells _ _ ++ Builtin.zeroCells _ _ = cn at hw1
    have hk1 : Keeps NoB w w1 := by rw [hw1]; exact ((Keeps.refl NoB w).drew).alloc _
    have hb1 : w1.heap[nb]? = some (.cells cn BadT (0, 0)) := by rw [hw1, hnb]; exact heap_alloc_new w.drew _
    have hcs : cn.size = c' * 3 := by
      rw [← hcn]
      simp only [Array.size_append, List.size_toArray, List.length_take, size_zeroCells]
      show min (i * 3) (l.flatMap GB).length + (l.length + 1 - i) * 3 + (c' - (l.length + 1)) * 3 = c' * 3
      omega
    have hc0 : ∀ j, j < i * 3 → cn[j]? = (l.flatMap GB)[j]? := fun j hj => by
      rw [← hcn, Array.append_assoc, Array.getElem?_append_left (by rw [List.size_toArray, List.length_take, hfl]; omega), List.getElem?_toArray, List.getElem?_take_of_lt hj]
    rw [← hnb]
    clear hw1 hcn
    have hvb1 := hk1.heap hvb (fun h => h)
    have hg1 := hk1.heap hgc (fun h => h)
    have hlv := lt_of_heap hvb
    have hlg := lt_of_heap hgc
    (repeat first | (apply wr_move; exact rfl; with_reducible (conv => enter [6, 3]; whnf)) | (apply wr_assign; exact rfl; with_reducible (conv => enter [6, 3]; whnf)) | apply wr_end | apply wc_seq | apply wc_region)
    refine wr_slFrom (i := i) rfl rfl rfl (by omega) (by omega) ?_
    (repeat first | (apply wr_move; exact rfl; with_reducible (conv => enter [6, 3]; whnf)))
    refine wr_copyK (news := GB x) (so := 0) rfl rfl hb1 rfl hvb1 (by rw [GB_len, nmin_l (by omega)]) (fun j hj => by rw [Nat.zero_add]; simp) (GB_one x) (by rw [GB_len, hcs]; omega) ?_
    refine wr_name ?_
    intro w2 hw2
    have hfit : 0 + i * 3 + (GB x).length ≤ cn.toList.length := by rw [GB_len, Array.length_toList, hcs]; omega
    generalize hcn2 : (cn.toList.take (0 + i * 3) ++ GB x ++ cn.toList.drop (0 + i * 3 + (GB x).length)).toArray = cn2 at hw2
    have hb2 : w2.heap[nb]? = some (.cells cn2 BadT (0, 0)) := by rw [hw2]; exact World.putObj_heap_same (lt_of_heap hb1)
    have hk2 : Keeps (· = nb) w1 w2 := by rw [hw2]; exact (Keeps.refl _ w1).put _ (fun _ => rfl)
    have hcs2 : cn2.size = c' * 3 := by
      rw [← hcn2, List.size_toArray, seg_len _ _ _ hfit, Array.length_toList, hcs]
    have hc20 : ∀ j, j < i * 3 + 3 → cn2[j]? = if j < i * 3 then (l.flatMap GB)[j]? else (GB x)[j - i * 3]? := fun j hj => by
      rw [← hcn2, List.getElem?_toArray, seg_get _ _ _ _ hfit, Nat.zero_add, GB_len]
      by_cases h1 : j < i * 3
      · rw [if_pos h1, if_pos h1, Array.getElem?_toList]; exact hc0 j h1
      · rw [if_neg h1, if_neg h1, if_pos hj]
    clear hw2 hcn2
    have hg2 := hk2.heap hg1 (by omega)
    have hkd : ∀ {w'}, Keeps NoB w2.drew w' → Keeps NoB w2 w' := fun hk => (Keeps.refl NoB w2).drew.trans hk
    (repeat first | apply wr_end | apply wc_seq)
    refine wc_drawP (l := _) 8 _ (by kernel_rfl) (by kernel_rfl) rfl (by kernel_rfl) (by kernel_rfl) (by decide) ?_
    apply chP_pure
    focus
      intro xx w' hk hF
      apply wr_move; exact rfl; with_reducible (conv => enter [6, 3]; whnf)
      apply wr_nil
      exact ⟨rfl, Keeps.refl _ _⟩
    focus (intro xx yy h; rfl)
    focus kernel_rfl
    apply chP_pure
    focus
      intro xx w' hk hF
      apply wr_move; exact rfl; with_reducible (conv => enter [6, 3]; whnf)
      apply wr_nil
      exact ⟨rfl, Keeps.refl _ _⟩
    focus (intro xx yy h; rfl)
    focus kernel_rfl
    apply chP_pure
    focus
      intro xx w' hk hF
      apply wr_move; exact rfl; with_reducible (conv => enter [6, 3]; whnf)
      apply wr_nil
      exact ⟨rfl, Keeps.refl _ _⟩
    focus (intro xx yy h; rfl)
    focus kernel_rfl
    apply chP_pure
    focus
      intro xx w' hk hF
      refine wr_add (c := ((i + 1 : Nat) : Int)) rfl rfl rfl (by rw [w_i64 (by omega)]; omega) ?_
      apply wr_nil
      exact ⟨rfl, Keeps.refl _ _⟩
    focus (intro xx yy h; rfl)
    focus kernel_rfl
    apply chP_pure
    focus
      intro xx w' hk hF
      refine wr_slFrom (i := i + 1) rfl rfl rfl (by omega) (by omega) ?_
      apply wr_nil
      exact ⟨rfl, Keeps.refl _ _⟩
    focus (intro xx yy h; rfl)
    focus kernel_rfl
    apply chP_pure
    focus
      intro xx w' hk hF
      apply wr_move; exact rfl; with_reducible (conv => enter [6, 3]; whnf)
      apply wr_nil
      exact ⟨rfl, Keeps.refl _ _⟩
    focus (intro xx yy h; rfl)
    focus kernel_rfl
    apply chP_pure
    focus
      intro xx w' hk hF
      apply wr_move; exact rfl; with_reducible (conv => enter [6, 3]; whnf)
      apply wr_nil
      exact ⟨rfl, Keeps.refl _ _⟩
    focus (intro xx yy h; rfl)
    focus kernel_rfl
    apply chP_pure
    focus
      intro xx w' hk hF
      refine wr_slFrom (i := i) rfl rfl rfl (by omega) (by omega) ?_
      apply wr_nil
      exact ⟨rfl, Keeps.refl _ _⟩
    focus (intro xx yy h; rfl)
    focus kernel_rfl
    refine chP_nil ?_
    intro xx w3 hk3' hF
    have hk3 := hkd hk3'
    have hb3 := hk3.heap hb2 (fun h => h)
    have hg3 := hk3.heap hg2 (fun h => h)
    refine wr_copyK (news := (l.flatMap GB).drop (i * 3)) (so := o + i * 3) rfl rfl hb3 rfl hg3 (by rw [List.length_drop, hfl, show l.length + 1 - (i + 1) = l.length - i by omega, nmin_l (Nat.le_refl _), Nat.sub_mul]) (fun j hj => by
      rw [List.length_drop, hfl] at hj
      rw [List.getElem?_drop, Nat.add_assoc]
      exact hrd _ (by omega)) (fun u hu => GBs_one l u (List.mem_of_mem_drop hu)) (by rw [List.length_drop, hfl, hcs2]; omega) ?_
    refine wr_name ?_
    intro w4 hw4
    have hfit3 : 0 + (i + 1) * 3 + ((l.flatMap GB).drop (i * 3)).length ≤ cn2.toList.length := by rw [List.length_drop, hfl, show cn2.toList.length = cn2.size from Array.length_toList, hcs2]; omega
    have hk4 : Keeps (· = nb) w3 w4 := by rw [hw4]; exact (Keeps.refl _ w3).put _ (fun _ => rfl)
    have hb4 : w4.heap[nb]? = some (.cells (cn2.toList.take (0 + (i + 1) * 3) ++ (l.flatMap GB).drop (i * 3) ++ cn2.toList.drop (0 + (i + 1) * 3 + ((l.flatMap GB).drop (i * 3)).length)).toArray BadT (0, 0)) := by rw [hw4]; exact World.putObj_heap_same (lt_of_heap hb3)
    clear hw4
    (repeat first | (apply wr_move; exact rfl; with_reducible (conv => enter [6, 3]; whnf)) | (apply wr_assign; exact rfl; with_reducible (conv => enter [6, 3]; whnf)) | apply wr_end | apply wc_seq | apply wc_region | (apply wc_ret; try simp only [thenE, inBlockE, bodyQ]))
    refine leave1 (v := .slice (some ⟨nb, 0, none⟩) (l.length + 1) c') rfl rfl ⟨⟨hXl, .inr ⟨nb, 0, c', _, rfl, by omega, hb4, hc1, hc2, ?_, fun j hj => ?_⟩⟩, ?_, .inr ⟨nb, rfl, by omega⟩⟩
    · rw [List.size_toArray, seg_len _ _ _ hfit3, Array.length_toList, hcs2, Nat.zero_add]; exact Nat.le_refl _
    · rw [show 0 + j = j from Nat.zero_add j, List.getElem?_toArray, seg_get _ _ _ _ hfit3, hXS, hg9 j (by rw [hfl]; omega), GB_len, List.length_drop, hfl, List.getElem?_drop, Array.getElem?_toList]
      by_cases h1 : j < i * 3 + 3
      · rw [if_pos (by omega), hc20 j h1]
        by_cases h2 : j < i * 3
        · rw [if_pos h2, if_pos h2]
        · rw [if_neg h2, if_neg h2, if_pos h1]
      · rw [if_neg (by omega), if_pos (by omega), if_neg (by omega), if_neg h1]
        congr 1; omega
    · exact ((hk1.trans' hk2 (fun q hq e => by omega)).trans hk3).trans' hk4 (fun q hq e => by omega) |>.upD
  have hlg := lt_of_heap hgc
  have hcp : c * 3 ≥ (l.length + 1) * 3 := Nat.mul_le_mul_right 3 hroom
  (repeat first | (apply wr_move; exact rfl; with_reducible (conv => enter [6, 3]; whnf)) | (apply wr_assign; exact rfl; with_reducible (conv => enter [6, 3]; whnf)) | apply wr_end | apply wc_seq | apply wc_region | apply wc_skip | (apply wr_len_slice; iterate 2 exact rfl) | (apply wr_cmp; (iterate 3 exact rfl); exact cmpF (by dsimp only [cmpN]; first | done | omega)) | (apply wr_add; (iterate 3 exact rfl); exact w_fit (by dsimp only [kIn]; first | done | omega)) | (apply wc_false; exact rfl))
  refine wr_cap_slice rfl rfl ?_
  (repeat first | (apply wr_move; exact rfl; with_reducible (conv => enter [6, 3]; whnf)) | apply wr_end | apply wc_seq | apply wc_region | apply wc_skip | (apply wr_cmp; (iterate 3 exact rfl); exact cmpF (by dsimp only [cmpN]; first | done | omega)) | (apply wr_add; (iterate 3 exact rfl); exact w_fit (by dsimp only [kIn]; first | done | omega)) | (apply wc_false; exact rfl))
  refine wr_slTo (j := l.length + 1) rfl rfl rfl hroom ?_
  (repeat first | (apply wr_move; exact rfl; with_reducible (conv => enter [6, 3]; whnf)) | (apply wr_assign; exact rfl; with_reducible (conv => enter [6, 3]; whnf)) | apply wr_end | apply wc_seq | apply wc_region | (apply wr_add; (iterate 3 exact rfl); exact w_fit (by dsimp only [kIn]; first | done | omega)))
  refine wr_slFrom (i := i + 1) rfl rfl rfl (by omega) (by omega) ?_
  refine wr_callX (vs := [.slice (some ⟨vb, 0, none⟩) 1 1, .slice (some ⟨gb, o + (i + 1) * 3, none⟩) (l.length + 1 - (i + 1)) (c - (i + 1))]) rfl (hov_ca hvb hgc hne' (by omega)) rfl ?_
  (repeat first | apply wr_end | apply wc_seq | (apply wr_not; iterate 2 exact rfl) | (apply wc_true; exact rfl))
  have hkd : ∀ {w'}, Keeps NoB w.drew w' → Keeps NoB w w' := fun hk => (Keeps.refl NoB w).drew.trans hk
  refine wc_drawP (l := _) 8 _ (by kernel_rfl) (by kernel_rfl) rfl (by kernel_rfl) (by kernel_rfl) (by decide) ?_
  apply chP_pure
  focus
    intro xx w' hk hF
    apply wr_move; exact rfl; with_reducible (conv => enter [6, 3]; whnf)
    apply wr_nil
    exact ⟨rfl, Keeps.refl _ _⟩
  focus (intro xx yy h; rfl)
  focus kernel_rfl
  apply chP_pure
  focus
    intro xx w' hk hF
    apply wr_move; exact rfl; with_reducible (conv => enter [6, 3]; whnf)
    apply wr_nil
    exact ⟨rfl, Keeps.refl _ _⟩
  focus (intro xx yy h; rfl)
  focus kernel_rfl
  apply chP_pure
  focus
    intro xx w' hk hF
    apply wr_move; exact rfl; with_reducible (conv => enter [6, 3]; whnf)
    apply wr_nil
    exact ⟨rfl, Keeps.refl _ _⟩
  focus (intro xx yy h; rfl)
  focus kernel_rfl
  apply chP_pure
  focus
    intro xx w' hk hF
    refine wr_add (c := ((i + 1 : Nat) : Int)) rfl rfl rfl (by rw [w_i64 (by omega)]; omega) ?_
    apply wr_nil
    exact ⟨rfl, Keeps.refl _ _⟩
  focus (intro xx yy h; rfl)
  focus kernel_rfl
  apply chP_pure
  focus
    intro xx w' hk hF
    refine wr_slFrom (i := i + 1) rfl rfl rfl (by omega) (by omega) ?_
    apply wr_nil
    exact ⟨rfl, Keeps.refl _ _⟩
  focus (intro xx yy h; rfl)
  focus kernel_rfl
  apply chP_pure
  focus
    intro xx w' hk hF
    apply wr_move; exact rfl; with_reducible (conv => enter [6, 3]; whnf)
    apply wr_nil
    exact ⟨rfl, Keeps.refl _ _⟩
  focus (intro xx yy h; rfl)
  focus kernel_rfl
  apply chP_pure
  focus
    intro xx w' hk hF
    apply wr_move; exact rfl; with_reducible (conv => enter [6, 3]; whnf)
    apply wr_nil
    exact ⟨rfl, Keeps.refl _ _⟩
  focus (intro xx yy h; rfl)
  focus kernel_rfl
  apply chP_pure
  focus
    intro xx w' hk hF
    refine wr_slFrom (i := i) rfl rfl rfl (by omega) (by omega) ?_
    apply wr_nil
    exact ⟨rfl, Keeps.refl _ _⟩
  focus (intro xx yy h; rfl)
  focus kernel_rfl
  refine chP_nil ?_
  intro xx w3 hk3' hF
  have hk3 := hkd hk3'
  have hg3 := hk3.heap hgc (fun h => h)
  have hvb3 := hk3.heap hvb (fun h => h)
  refine wr_copyK (news := (l.flatMap GB).drop (i * 3)) (so := o + i * 3) rfl rfl hg3 rfl hg3 (by rw [List.length_drop, hfl, nmin_r (by omega), Nat.sub_mul]; omega) (fun j hj => by
    rw [List.length_drop, hfl] at hj
    rw [List.getElem?_drop, Nat.add_assoc]
    exact hrd _ (by omega)) (fun u hu => GBs_one l u (List.mem_of_mem_drop hu)) (by rw [List.length_drop, hfl]; omega) ?_
  refine wr_name ?_
  intro w4 hw4
  have hfit3 : o + (i + 1) * 3 + ((l.flatMap GB).drop (i * 3)).length ≤ cur.toList.length := by rw [List.length_drop, hfl, show cur.toList.length = cur.size from Array.length_toList]; omega
  generalize hcn2 : (cur.toList.take (o + (i + 1) * 3) ++ (l.flatMap GB).drop (i * 3) ++ cur.toList.drop (o + (i + 1) * 3 + ((l.flatMap GB).drop (i * 3)).length)).toArray = cn2 at hw4
  have hk4 : Keeps (· = gb) w3 w4 := by rw [hw4]; exact (Keeps.refl _ w3).put _ (fun _ => rfl)
  have hb4 : w4.heap[gb]? = some (.cells cn2 BadT (0, 0)) := by rw [hw4]; exact World.putObj_heap_same (lt_of_heap hg3)
  have hcs2 : cn2.size = cur.size := by rw [← hcn2, List.size_toArray, seg_len _ _ _ hfit3, Array.length_toList]
  have hc20 : ∀ j, j < (l.length + 1) * 3 → cn2[o + j]? = if j < (i + 1) * 3 then cur[o + j]? else (l.flatMap GB)[j - 3]? := fun j hj => by
    rw [← hcn2, List.getElem?_toArray, seg_get _ _ _ _ hfit3, List.length_drop, hfl, List.getElem?_drop, Array.getElem?_toList]
    by_cases h1 : j < (i + 1) * 3
    · rw [if_pos h1, if_pos (by omega)]
    · rw [if_neg h1, if_neg (by omega), if_pos (by omega)]
      congr 1; omega
  clear hw4 hcn2
  have hvb4 := hk4.heap hvb3 hne'
  (repeat first | (apply wr_move; exact rfl; with_reducible (conv => enter [6, 3]; whnf)) | apply wr_end | apply wc_seq | apply wc_region)
  refine wr_slFrom (i := i) rfl rfl rfl (by omega) (by omega) ?_
  (repeat first | (apply wr_move; exact rfl; with_reducible (conv => enter [6, 3]; whnf)))
  refine wr_copyK (news := GB x) (so := 0) rfl rfl hb4 rfl hvb4 (by rw [GB_len, nmin_l (by omega)]) (fun j hj => by rw [Nat.zero_add]; simp) (GB_one x) (by rw [GB_len, hcs2]; omega) ?_
  refine wr_name ?_
  intro w5 hw5
  have hfit5 : o + i * 3 + (GB x).length ≤ cn2.toList.length := by rw [GB_len, Array.length_toList, hcs2]; omega
  have hk5 : Keeps (· = gb) w4 w5 := by rw [hw5]; exact (Keeps.refl _ w4).put _ (fun _ => rfl)
  have hb5 : w5.heap[gb]? = some (.cells (cn2.toList.take (o + i * 3) ++ GB x ++ cn2.toList.drop (o + i * 3 + (GB x).length)).toArray BadT (0, 0)) := by rw [hw5]; exact World.putObj_heap_same (lt_of_heap hb4)
  clear hw5
  (repeat first | (apply wr_move; exact rfl; with_reducible (conv => enter [6, 3]; whnf)) | (apply wr_assign; exact rfl; with_reducible (conv => enter [6, 3]; whnf)) | apply wr_end | apply wc_seq | apply wc_region | (apply wc_ret; try simp only [thenE, inBlockE, bodyQ]))
  refine leave1 (v := .slice (some ⟨gb, o, none⟩) (l.length + 1) c) rfl rfl ⟨⟨hXl, .inr ⟨gb, o, c, _, rfl, hgb, hb5, hroom, hcm, ?_, fun j hj => ?_⟩⟩, ?_, .inl rfl⟩
  · rw [List.size_toArray, seg_len _ _ _ hfit5, Array.length_toList, hcs2]; exact hsz
  · rw [List.getElem?_toArray, seg_get _ _ _ _ hfit5, hXS, hg9 j (by rw [hfl]; omega), GB_len, Array.getElem?_toList]
    by_cases h1 : j < i * 3
    · rw [if_pos (by omega), if_pos h1, hc20 j (by omega), if_pos (by omega)]
      exact hrd j (by omega)
    · rw [if_neg (by omega), if_neg h1]
      by_cases h2 : j < i * 3 + 3
      · rw [if_pos (by omega), if_pos h2]
        congr 1; omega
      · rw [if_neg (by omega), if_neg h2, hc20 j hj, if_neg (by omega)]
  · exact (hk3.upD.trans ((hk4.trans hk5).mono fun q _ e => by rw [e]; rfl))
end Go.Proofs.YtjaojihogmnjhaaGreatDoor
