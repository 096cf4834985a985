/- slices.SortFunc of at most twelve keys. -/
import Derived.Test.YtjaojihogmnjhaaGreatDoorKb
import Derived.Test.YtjaojihogmnjhaaGreatDoorVK
import Derived.Test.YtjaojihogmnjhaaGreatDoorShelf
namespace Go.Proofs.YtjaojihogmnjhaaGreatDoor
open Go Go.V Go.RowKit
set_option linter.unusedVariables false
set_option linter.unusedSimpArgs false

theorem B.toNo {D : Nat → Prop} {k B i : Nat} {a b : World} (h : Keeps (V.B.monB D (some k) B i) a b) (hb : (Nat.beq i k || bef B k i) = true) : Keeps NoB a b := by
  unfold V.B.monB at h
  dsimp only at h
  rw [hb] at h
  exact h
theorem own_at {w : World} {base n cap k b : Nat} {T : TypeId} {xs : List Value} (h : w.ownsRow base T k (.slice (some ⟨b, 0, none⟩) n cap) n xs) : ∃ cur, w.heap[b]? = some (.cells cur T (0, 0)) ∧ ∀ j, j < n * k → cur[0 + j]? = xs[j]? := by
  rcases h.2 with ⟨h0, _⟩ | ⟨g, cap', cur, he, hb, hg, hn, hm, hs, ht⟩
  · cases h0
  · cases he
    exact ⟨cur, hg, fun j hj => by rw [← ht, List.getElem?_take_of_lt hj, Nat.zero_add]; simp⟩
theorem own_of_block {w w' : World} {base n cap k b : Nat} {T : TypeId} {xs : List Value} (h : w.ownsRow base T k (.slice (some ⟨b, 0, none⟩) n cap) n xs) (hb : w'.heap[b]? = w.heap[b]?) : w'.ownsRow base T k (.slice (some ⟨b, 0, none⟩) n cap) n xs := by
  refine ⟨h.1, ?_⟩
  rcases h.2 with ⟨h0, _⟩ | ⟨g, cap', cur, he, hbb, hg, hr⟩
  · cases h0
  · cases he
    exact .inr ⟨b, cap, cur, rfl, hbb, hb.trans hg, hr⟩
theorem own_cases {w : World} {base n k : Nat} {T : TypeId} {v : Value} {xs : List Value} (h : w.ownsRow base T k v n xs) : (v = .slice none 0 0 ∧ n = 0) ∨ ∃ b cap, v = .slice (some ⟨b, 0, none⟩) n cap := by
  rcases h.2 with ⟨rfl, rfl⟩ | ⟨g, cap, cur, rfl, _⟩
  · exact .inl ⟨rfl, rfl⟩
  · exact .inr ⟨g, cap, rfl⟩
theorem own_sl' {w : World} {base n k : Nat} {T : TypeId} {v : Value} {xs : List Value} (h : w.ownsRow base T k v n xs) : ∃ a c, v = .slice a n c := by
  rcases h.2 with ⟨rfl, rfl⟩ | ⟨g, cap, cur, rfl, _⟩
  · exact ⟨none, 0, rfl⟩
  · exact ⟨_, _, rfl⟩
theorem bitsLen_ca (n : Nat) (hn : n < 4611686018427387904) (w : World) : Ca Tryz.prog 44 #[.int .u64 (n : Int)] w fun v w' => v = .int .i64 (Lib.bitLen n : Int) ∧ w' = w := by
  refine Ca.of_calls (Tryz.bits_Len (n : Int) w (by omega) (by omega)) ?_
  rintro e w' ⟨h1, h2⟩
  exact ⟨_, h1, by simp, h2⟩
def GK (k : KY) : List Value := [.int .i64 k.1, S k.2]
theorem GK_len (k : KY) : (GK k).length = 2 := rfl
theorem GK_one (k : KY) : ∀ u ∈ GK k, u.oneCell' = true := by
  intro u hu
  simp only [GK, List.mem_cons, List.not_mem_nil, or_false] at hu
  rcases hu with rfl | rfl <;> rfl
set_option maxRecDepth 100000 in
theorem kins_none (g : FuncId) (w : World) :
    Ca Tryz.prog 59 #[.slice none 0 0, .int .i64 0, .int .i64 ((0 : Nat) : Int), .func (.func g) #[] #[]] w fun v w' => v = .tuple #[] ∧ w' = w := by
  refine ca_of_body (args := [.slice none 0 0, .int .i64 0, .int .i64 ((0 : Nat) : Int), .func (.func g) #[] #[]]) Tryz.func59 rfl (by kernel_rfl) ?_
  (repeat first | (apply wr_move; exact rfl; with_reducible (conv => enter [6, 3]; whnf)) | (apply wr_assign; exact rfl; with_reducible (conv => enter [6, 3]; whnf)) | apply wr_end | apply wc_seq | apply wc_region | apply wc_block | (apply wr_add; (iterate 3 exact rfl); exact w_fit (by dsimp only [kIn]; first | done | omega)))
  refine wc_loopL (α := Unit) (fun _ => [(2, .int .i64 ((0 : Nat) : Int)), (8, .int .i64 1)]) (fun _ ds w' => ds = [] ∧ w' = w) (fun _ => 0) () ⟨rfl, rfl⟩ ⟨rfl, rfl, trivial⟩ ?_
  rintro _ ds f0 w2 ⟨rfl, rfl⟩
  (repeat first | (apply wr_move; exact rfl; with_reducible (conv => enter [6, 3]; whnf)) | apply wr_end | apply wc_seq | apply wc_region | (apply wr_cmp; (iterate 3 exact rfl); exact cmpF (by dsimp only [cmpN]; first | done | omega)) | (apply wc_false; exact rfl) | (apply wc_exit; try simp only [thenE, inBlockE, bodyQ, ↓reduceIte, Nat.reduceEqDiff]))
  try unfold bodyQ
  exact leave0 rfl ⟨rfl, rfl⟩
set_option maxRecDepth 100000 in
set_option maxHeartbeats 4000000 in
theorem kins_ca {ord : KY → KY → Int} (hs : Strict (fun a b => ord a b < 0)) (g : FuncId) (hge : enterable Tryz.prog g = true) (hg : ∀ (a b : KY) (w : World), Ca Tryz.prog g #[.agg (GK a).toArray, .agg (GK b).toArray] w fun v w' => v = .int .i64 (ord a b) ∧ Keeps NoB w w')
    (base b cap n : Nat) (l : List KY) (w : World) (hown : w.ownsRow base 36 2 (.slice (some ⟨b, 0, none⟩) n cap) n (l.flatMap GK)) (hl : l.length = n) (hn : n ≤ 4611686018427387904) :
    Ca Tryz.prog 59 #[.slice (some ⟨b, 0, none⟩) n cap, .int .i64 0, .int .i64 (n : Int), .func (.func g) #[] #[]] w fun v w' => v = .tuple #[] ∧
      ∃ l' : List KY, l'.Perm l ∧ SrtTo (fun a b => ord a b < 0) n l' ∧ w'.ownsRow base 36 2 (.slice (some ⟨b, 0, none⟩) n cap) n (l'.flatMap GK) ∧ Keeps (· = b) w w' := by
  refine ca_of_body (args := [.slice (some ⟨b, 0, none⟩) n cap, .int .i64 0, .int .i64 (n : Int), .func (.func g) #[] #[]]) Tryz.func59 rfl (by kernel_rfl) ?_
  (repeat first | (apply wr_move; exact rfl; with_reducible (conv => enter [6, 3]; whnf)) | (apply wr_assign; exact rfl; with_reducible (conv => enter [6, 3]; whnf)) | apply wr_end | apply wc_seq | apply wc_region | apply wc_block | (apply wr_add; (iterate 3 exact rfl); exact w_fit (by dsimp only [kIn]; first | done | omega)))
  refine wc_loopL (α := Nat × List KY) (fun p => [(0, .slice (some ⟨b, 0, none⟩) n cap), (1, .int .i64 0), (2, .int .i64 (n : Int)), (3, .func (.func g) #[] #[]), (8, .int .i64 ((p.1 + 1 : Nat) : Int))])
    (fun p ds w' => ds = [] ∧ p.2.Perm l ∧ SrtTo (fun a b => ord a b < 0) (p.1 + 1) p.2 ∧ w'.ownsRow base 36 2 (.slice (some ⟨b, 0, none⟩) n cap) n (p.2.flatMap GK) ∧ Keeps (· = b) w w') (fun p => n - p.1) (0, l)
    ⟨rfl, List.Perm.refl _, fun p q a b hpq hq => by omega, hown, Keeps.refl _ _⟩ ⟨rfl, rfl, rfl, rfl, rfl, trivial⟩ ?_
  rintro ⟨i, l1⟩ ds f0 w1 ⟨rfl, hp1, hsr, ho1, hk1⟩
  dsimp only at hp1 hsr ho1 ⊢
  by_cases hlt : i + 1 < n
  rotate_left
  · (repeat first | (apply wr_move; exact rfl; with_reducible (conv => enter [6, 3]; whnf)) | apply wr_end | apply wc_seq | apply wc_region | (apply wr_cmp; (iterate 3 exact rfl); exact cmpF (by dsimp only [cmpN]; first | done | omega)) | (apply wc_false; exact rfl) | (apply wc_exit; try simp only [thenE, inBlockE, bodyQ, ↓reduceIte, Nat.reduceEqDiff]))
    try unfold bodyQ
    exact leave0 rfl ⟨rfl, l1, hp1, fun p q a b hpq hq => hsr p q a b hpq (by omega), ho1, hk1⟩
  (repeat first | (apply wr_move; exact rfl; with_reducible (conv => enter [6, 3]; whnf)) | (apply wr_assign; exact rfl; with_reducible (conv => enter [6, 3]; whnf)) | apply wr_end | apply wc_seq | apply wc_region | apply wc_skip | apply wc_block | (apply wr_cmp; (iterate 3 exact rfl); exact cmpT (by dsimp only [cmpP]; first | done | omega)) | (apply wc_true; exact rfl))
  refine wc_loopL (α := Nat × List KY) (fun p => [(0, .slice (some ⟨b, 0, none⟩) n cap), (1, .int .i64 0), (2, .int .i64 (n : Int)), (3, .func (.func g) #[] #[]), (8, .int .i64 ((i + 1 : Nat) : Int)), (9, .int .i64 (p.1 : Int))])
    (fun p ds w' => ds = [] ∧ p.1 ≤ i + 1 ∧ p.2.Perm l ∧ InsI (fun a b => ord a b < 0) (i + 1) p.1 p.2 ∧ w'.ownsRow base 36 2 (.slice (some ⟨b, 0, none⟩) n cap) n (p.2.flatMap GK) ∧ Keeps (· = b) w w') (fun p => p.1) (i + 1, l1)
    ⟨rfl, Nat.le_refl _, hp1, ins_start hsr, ho1, hk1⟩ ⟨rfl, rfl, rfl, rfl, rfl, rfl, trivial⟩ ?_
  rintro ⟨j, l2⟩ ds f1 w2 ⟨rfl, hji, hp2, hin, ho2, hk2⟩
  dsimp only at hji hp2 hin ho2 ⊢
  have hl2 : l2.length = n := by rw [hp2.length_eq, hl]
  obtain ⟨cur, hb2, hr2⟩ := own_at ho2
  have hk0 : ∀ {w'}, Keeps NoB w2.drew w' → Keeps NoB w2 w' := fun hk => (Keeps.refl NoB w2).drew.trans hk
  match j with
  | 0 =>
    (repeat first | apply wc_seq)
    refine wc_drawP (l := _) 17 _ (by kernel_rfl) (by kernel_rfl) rfl (by kernel_rfl) (by kernel_rfl) (by decide) ?_
    apply chP_pure
    focus
      intro xx w' hk hF
      apply wr_move; exact rfl; with_reducible (conv => enter [6, 3]; whnf)
      apply wr_nil
      exact ⟨rfl, Keeps.refl _ _⟩
    focus (intro xx yy h; rfl)
    focus kernel_rfl
    apply chP_pure
    focus
      intro xx w' hk hF
      apply wr_move; exact rfl; with_reducible (conv => enter [6, 3]; whnf)
      apply wr_nil
      exact ⟨rfl, Keeps.refl _ _⟩
    focus (intro xx yy h; rfl)
    focus kernel_rfl
    apply chP_pure
    focus
      intro xx w' hk hF
      apply wr_cmp; (iterate 3 exact rfl); exact cmpF (by dsimp only [cmpN]; omega)
      apply wr_nil
      exact ⟨rfl, Keeps.refl _ _⟩
    focus (intro xx yy h; rfl)
    focus kernel_rfl
    apply chP_pure
    focus
      intro xx w' hk hF
      apply wr_move; exact rfl; with_reducible (conv => enter [6, 3]; whnf)
      apply wr_nil
      exact ⟨rfl, Keeps.refl _ _⟩
    focus (intro xx yy h; rfl)
    focus kernel_rfl
    apply chP_pure
    focus
      intro xx w' hk hF
      refine wr_skip rfl ?_
      apply wr_nil
      exact ⟨rfl, Keeps.refl _ _⟩
    focus (intro xx yy h; rfl)
    focus kernel_rfl
    apply chP_pure
    focus
      intro xx w' hk hF
      refine wr_skip rfl ?_
      apply wr_nil
      exact ⟨rfl, Keeps.refl _ _⟩
    focus (intro xx yy h; rfl)
    focus kernel_rfl
    apply chP_pure
    focus
      intro xx w' hk hF
      refine wr_skip rfl ?_
      apply wr_nil
      exact ⟨rfl, Keeps.refl _ _⟩
    focus (intro xx yy h; rfl)
    focus kernel_rfl
    apply chP_pure
    focus
      intro xx w' hk hF
      refine wr_skip rfl ?_
      apply wr_nil
      exact ⟨rfl, Keeps.refl _ _⟩
    focus (intro xx yy h; rfl)
    focus kernel_rfl
    apply chP_pure
    focus
      intro xx w' hk hF
      refine wr_skip rfl ?_
      apply wr_nil
      exact ⟨rfl, Keeps.refl _ _⟩
    focus (intro xx yy h; rfl)
    focus kernel_rfl
    apply chP_pure
    focus
      intro xx w' hk hF
      refine wr_skip rfl ?_
      apply wr_nil
      exact ⟨rfl, Keeps.refl _ _⟩
    focus (intro xx yy h; rfl)
    focus kernel_rfl
    apply chP_pure
    focus
      intro xx w' hk hF
      refine wr_skip rfl ?_
      apply wr_nil
      exact ⟨rfl, Keeps.refl _ _⟩
    focus (intro xx yy h; rfl)
    focus kernel_rfl
    apply chP_pure
    focus
      intro xx w' hk hF
      refine wr_skip rfl ?_
      apply wr_nil
      exact ⟨rfl, Keeps.refl _ _⟩
    focus (intro xx yy h; rfl)
    focus kernel_rfl
    apply chP_pure
    focus
      intro xx w' hk hF
      refine wr_skip rfl ?_
      apply wr_nil
      exact ⟨rfl, Keeps.refl _ _⟩
    focus (intro xx yy h; rfl)
    focus kernel_rfl
    apply chP_pure
    focus
      intro xx w' hk hF
      refine wr_skip rfl ?_
      apply wr_nil
      exact ⟨rfl, Keeps.refl _ _⟩
    focus (intro xx yy h; rfl)
    focus kernel_rfl
    apply chP_pure
    focus
      intro xx w' hk hF
      refine wr_skip rfl ?_
      apply wr_nil
      exact ⟨rfl, Keeps.refl _ _⟩
    focus (intro xx yy h; rfl)
    focus kernel_rfl
    apply chP_pure
    focus
      intro xx w' hk hF
      refine wr_skip rfl ?_
      apply wr_nil
      exact ⟨rfl, Keeps.refl _ _⟩
    focus (intro xx yy h; rfl)
    focus kernel_rfl
    apply chP_pure
    focus
      intro xx w' hk hF
      apply wr_pick (t := false); (iterate 2 exact rfl); with_reducible (conv => enter [6, 3]; whnf)
      apply wr_nil
      exact ⟨rfl, Keeps.refl _ _⟩
    focus (intro xx yy h; rfl)
    focus kernel_rfl
    refine chP_nil ?_
    intro xx w3 hk3' hF
    have hk3 := hk0 hk3'
    (repeat first | (apply wr_move; exact rfl; with_reducible (conv => enter [6, 3]; whnf)) | (apply wr_assign; exact rfl; with_reducible (conv => enter [6, 3]; whnf)) | apply wr_end | apply wc_region | (apply wr_add; (iterate 3 exact rfl); exact w_fit (by dsimp only [kIn]; first | done | omega)) | (apply wc_false; exact rfl) | (apply wc_exit; try simp only [thenE, inBlockE, bodyQ, ↓reduceIte, Nat.reduceEqDiff]))
    exact ⟨(i + 1, l2), by dsimp only; omega, ⟨by trivial, hp2, ins_end0 hin, own_keep ho2 hk3 (fun _ _ h => h), hk2.trans hk3.upD⟩, rfl, rfl, rfl, rfl, rfl, trivial⟩
  | m + 1 =>
    obtain ⟨x, hx⟩ : ∃ x, l2[m]? = some x := ⟨l2[m]'(by omega), by simp [show m < l2.length by omega]⟩
    obtain ⟨y, hy⟩ : ∃ y, l2[m + 1]? = some y := ⟨l2[m + 1]'(by omega), by simp [show m + 1 < l2.length by omega]⟩
    (repeat first | apply wc_seq)
    by_cases hxy : ord y x < 0
    · refine wc_drawP (l := _) 17 _ (by kernel_rfl) (by kernel_rfl) rfl (by kernel_rfl) (by kernel_rfl) (by decide) ?_
      apply chP_pure
      focus
        intro xx w' hk hF
        apply wr_move; exact rfl; with_reducible (conv => enter [6, 3]; whnf)
        apply wr_nil
        exact ⟨rfl, Keeps.refl _ _⟩
      focus (intro xx yy h; rfl)
      focus kernel_rfl
      apply chP_pure
      focus
        intro xx w' hk hF
        apply wr_move; exact rfl; with_reducible (conv => enter [6, 3]; whnf)
        apply wr_nil
        exact ⟨rfl, Keeps.refl _ _⟩
      focus (intro xx yy h; rfl)
      focus kernel_rfl
      apply chP_pure
      focus
        intro xx w' hk hF
        apply wr_cmp; (iterate 3 exact rfl); exact cmpT (by dsimp only [cmpP]; omega)
        apply wr_nil
        exact ⟨rfl, Keeps.refl _ _⟩
      focus (intro xx yy h; rfl)
      focus kernel_rfl
      apply chP_pure
      focus
        intro xx w' hk hF
        apply wr_move; exact rfl; with_reducible (conv => enter [6, 3]; whnf)
        apply wr_nil
        exact ⟨rfl, Keeps.refl _ _⟩
      focus (intro xx yy h; rfl)
      focus kernel_rfl
      apply chP_pure
      focus
        intro xx w' hk hF
        apply wr_move; exact rfl; with_reducible (conv => enter [6, 3]; whnf)
        apply wr_nil
        exact ⟨rfl, Keeps.refl _ _⟩
      focus (intro xx yy h; rfl)
      focus kernel_rfl
      apply chP_pure
      focus
        intro xx w' hk hF
        apply wr_move; exact rfl; with_reducible (conv => enter [6, 3]; whnf)
        apply wr_nil
        exact ⟨rfl, Keeps.refl _ _⟩
      focus (intro xx yy h; rfl)
      focus kernel_rfl
      apply chP_pure
      focus
        intro xx w' hk hF
        apply wr_move; exact rfl; with_reducible (conv => enter [6, 3]; whnf)
        apply wr_nil
        exact ⟨rfl, Keeps.refl _ _⟩
      focus (intro xx yy h; rfl)
      focus kernel_rfl
      apply chP_pure
      focus
        intro xx w' hk hF
        refine wr_indexAddr (i := m + 1) rfl rfl rfl (by omega) ?_
        apply wr_nil
        exact ⟨rfl, Keeps.refl _ _⟩
      focus (intro xx yy h; rfl)
      focus kernel_rfl
      apply chP_pure
      focus
        intro xx w' hk hF
        refine wr_loadElem (G := GK) (n := n) rfl rfl GK_len rfl ((hk0 hk).heap hb2 (fun h => h)) hr2 (by omega) hy rfl ?_
        apply wr_nil
        exact ⟨rfl, Keeps.refl _ _⟩
      focus (intro xx yy h; rfl)
      focus kernel_rfl
      apply chP_pure
      focus
        intro xx w' hk hF
        apply wr_move; exact rfl; with_reducible (conv => enter [6, 3]; whnf)
        apply wr_nil
        exact ⟨rfl, Keeps.refl _ _⟩
      focus (intro xx yy h; rfl)
      focus kernel_rfl
      apply chP_pure
      focus
        intro xx w' hk hF
        apply wr_move; exact rfl; with_reducible (conv => enter [6, 3]; whnf)
        apply wr_nil
        exact ⟨rfl, Keeps.refl _ _⟩
      focus (intro xx yy h; rfl)
      focus kernel_rfl
      apply chP_pure
      focus
        intro xx w' hk hF
        refine wr_sub (c := (m : Int)) rfl rfl rfl (by rw [w_i64 (by omega)]; omega) ?_
        apply wr_nil
        exact ⟨rfl, Keeps.refl _ _⟩
      focus (intro xx yy h; rfl)
      focus kernel_rfl
      apply chP_pure
      focus
        intro xx w' hk hF
        refine wr_indexAddr (i := m) rfl rfl rfl (by omega) ?_
        apply wr_nil
        exact ⟨rfl, Keeps.refl _ _⟩
      focus (intro xx yy h; rfl)
      focus kernel_rfl
      apply chP_pure
      focus
        intro xx w' hk hF
        refine wr_loadElem (G := GK) (n := n) rfl rfl GK_len rfl ((hk0 hk).heap hb2 (fun h => h)) hr2 (by omega) hx rfl ?_
        apply wr_nil
        exact ⟨rfl, Keeps.refl _ _⟩
      focus (intro xx yy h; rfl)
      focus kernel_rfl
      apply chP_pure
      focus
        intro xx w' hk hF
        refine wr_callv (vs := [.agg (GK y).toArray, .agg (GK x).toArray]) rfl (callV_func (first := #[]) (cap := #[]) hge (hg y x w')) rfl rfl ?_
        rintro v w'' ⟨rfl, hkc⟩
        apply wr_nil
        exact ⟨rfl, hkc⟩
      focus (intro xx yy h; rfl)
      focus kernel_rfl
      apply chP_pure
      focus
        intro xx w' hk hF
        apply wr_cmp; (iterate 3 exact rfl); exact cmpT (by dsimp only [cmpP]; omega)
        apply wr_nil
        exact ⟨rfl, Keeps.refl _ _⟩
      focus (intro xx yy h; rfl)
      focus kernel_rfl
      apply chP_pure
      focus
        intro xx w' hk hF
        apply wr_pick (t := true); (iterate 2 exact rfl); with_reducible (conv => enter [6, 3]; whnf)
        apply wr_nil
        exact ⟨rfl, Keeps.refl _ _⟩
      focus (intro xx yy h; rfl)
      focus kernel_rfl
      refine chP_nil ?_
      intro xx w3 hk3' hF
      have hk3 := hk0 hk3'
      have hb2' := hk3.heap hb2 (fun h => h)
      have ho3 := own_keep ho2 hk3 (fun _ _ h => h)
      have hk23 := hk2.trans hk3.upD
      clear hb2 hF hk3 hk3' hk2
      revert hb2' ho3 hk23
      generalize w3 = w2
      intro hb2 ho3 hk23
      (repeat first | apply wr_end | apply wc_seq | apply wc_skip | apply wc_block | (apply wc_true; exact rfl))
      refine B.wc_drawQ (· = b) (some 15) (l := _) 17 _ (by kernel_rfl) (by kernel_rfl) rfl (by kernel_rfl) (by kernel_rfl) (by decide) ?_
      apply B.chP_pure
      focus
        intro xx w' hk hF
        apply wr_move; exact rfl; with_reducible (conv => enter [6, 3]; whnf)
        apply wr_nil
        exact ⟨rfl, Keeps.refl _ _⟩
      focus (intro xx yy h; rfl)
      focus kernel_rfl
      apply B.chP_pure
      focus
        intro xx w' hk hF
        apply wr_move; exact rfl; with_reducible (conv => enter [6, 3]; whnf)
        apply wr_nil
        exact ⟨rfl, Keeps.refl _ _⟩
      focus (intro xx yy h; rfl)
      focus kernel_rfl
      apply B.chP_pure
      focus
        intro xx w' hk hF
        apply wr_move; exact rfl; with_reducible (conv => enter [6, 3]; whnf)
        apply wr_nil
        exact ⟨rfl, Keeps.refl _ _⟩
      focus (intro xx yy h; rfl)
      focus kernel_rfl
      apply B.chP_pure
      focus
        intro xx w' hk hF
        apply wr_move; exact rfl; with_reducible (conv => enter [6, 3]; whnf)
        apply wr_nil
        exact ⟨rfl, Keeps.refl _ _⟩
      focus (intro xx yy h; rfl)
      focus kernel_rfl
      apply B.chP_pure
      focus
        intro xx w' hk hF
        refine wr_sub (c := (m : Int)) rfl rfl rfl (by rw [w_i64 (by omega)]; omega) ?_
        apply wr_nil
        exact ⟨rfl, Keeps.refl _ _⟩
      focus (intro xx yy h; rfl)
      focus kernel_rfl
      apply B.chP_pure
      focus
        intro xx w' hk hF
        apply wr_move; exact rfl; with_reducible (conv => enter [6, 3]; whnf)
        apply wr_nil
        exact ⟨rfl, Keeps.refl _ _⟩
      focus (intro xx yy h; rfl)
      focus kernel_rfl
      apply B.chP_pure
      focus
        intro xx w' hk hF
        apply wr_move; exact rfl; with_reducible (conv => enter [6, 3]; whnf)
        apply wr_nil
        exact ⟨rfl, Keeps.refl _ _⟩
      focus (intro xx yy h; rfl)
      focus kernel_rfl
      apply B.chP_pure
      focus
        intro xx w' hk hF
        refine wr_sub (c := (m : Int)) rfl rfl rfl (by rw [w_i64 (by omega)]; omega) ?_
        apply wr_nil
        exact ⟨rfl, Keeps.refl _ _⟩
      focus (intro xx yy h; rfl)
      focus kernel_rfl
      apply B.chP_pure
      focus
        intro xx w' hk hF
        refine wr_indexAddr (i := m) rfl rfl rfl (by omega) ?_
        apply wr_nil
        exact ⟨rfl, Keeps.refl _ _⟩
      focus (intro xx yy h; rfl)
      focus kernel_rfl
      apply B.chP_pure
      focus
        intro xx w' hk hF
        have hk1 := (Keeps.refl NoB w2).drew.trans (B.toNo hk (by kernel_rfl))
        refine wr_loadElem (G := GK) (n := n) rfl rfl GK_len rfl (hk1.heap hb2 (fun h => h)) hr2 (by omega) hx rfl ?_
        apply wr_nil
        exact ⟨rfl, Keeps.refl _ _⟩
      focus (intro xx yy h; rfl)
      focus kernel_rfl
      apply B.chP_pure
      focus
        intro xx w' hk hF
        apply wr_move; exact rfl; with_reducible (conv => enter [6, 3]; whnf)
        apply wr_nil
        exact ⟨rfl, Keeps.refl _ _⟩
      focus (intro xx yy h; rfl)
      focus kernel_rfl
      apply B.chP_pure
      focus
        intro xx w' hk hF
        apply wr_move; exact rfl; with_reducible (conv => enter [6, 3]; whnf)
        apply wr_nil
        exact ⟨rfl, Keeps.refl _ _⟩
      focus (intro xx yy h; rfl)
      focus kernel_rfl
      apply B.chP_pure
      focus
        intro xx w' hk hF
        refine wr_indexAddr (i := m + 1) rfl rfl rfl (by omega) ?_
        apply wr_nil
        exact ⟨rfl, Keeps.refl _ _⟩
      focus (intro xx yy h; rfl)
      focus kernel_rfl
      apply B.chP_pure
      focus
        intro xx w' hk hF
        have hk1 := (Keeps.refl NoB w2).drew.trans (B.toNo hk (by kernel_rfl))
        refine wr_loadElem (G := GK) (n := n) rfl rfl GK_len rfl (hk1.heap hb2 (fun h => h)) hr2 (by omega) hy rfl ?_
        apply wr_nil
        exact ⟨rfl, Keeps.refl _ _⟩
      focus (intro xx yy h; rfl)
      focus kernel_rfl
      apply B.chP_pure
      focus
        intro xx w' hk hF
        refine wr_indexAddr (i := m + 1) rfl rfl rfl (by omega) ?_
        apply wr_nil
        exact ⟨rfl, Keeps.refl _ _⟩
      focus (intro xx yy h; rfl)
      focus kernel_rfl
      obtain ⟨ho4, hfit⟩ := own_set GK_len ho3 hl2 hb2 (show m + 1 < n by omega) x
      refine B.chP_fact (fun _ => undef) (fun _ w' => w'.heap[b]? = some (.cells (cur.toList.take (0 + (m + 1) * 2) ++ GK x ++ cur.toList.drop (0 + (m + 1) * 2 + 2)).toArray 36 (0, 0))) (fun y w w' h k => k.heap h (fun h => h)) ?_ ?_
      focus
        intro xx w' hk hF
        have hk1 := (Keeps.refl NoB w2).drew.trans (B.toNo hk (by kernel_rfl))
        have hb' := hk1.heap hb2 (fun h => h)
        refine wr_storePart (cs := GK x) rfl rfl rfl (GK_one x) hb' (GK_len x) (by omega) ?_
        apply wr_nil
        exact ⟨undef, rfl, World.putObj_heap_same (lt_of_heap hb'), (Keeps.refl _ _).put _ (fun _ => rfl)⟩
      apply B.chP_pure
      focus
        intro xx w' hk hF
        refine wr_indexAddr (i := m) rfl rfl rfl (by omega) ?_
        apply wr_nil
        exact ⟨rfl, Keeps.refl _ _⟩
      focus (intro xx yy h; rfl)
      focus kernel_rfl
      refine B.chP_nil ?_
      intro xx w3 hk3' hF
      have hk3 : Keeps (· = b) w2 w3 := (Keeps.refl (· = b) w2).drew.trans hk3'
      have hb3 : w3.heap[b]? = some (.cells (cur.toList.take (0 + (m + 1) * 2) ++ GK x ++ cur.toList.drop (0 + (m + 1) * 2 + 2)).toArray 36 (0, 0)) := hF 15 (by decide)
      have ho5 := own_of_block ho4 (w' := w3) (hb3.trans (World.putObj_heap_same (lt_of_heap hb2)).symm)
      obtain ⟨ho6, hfit6⟩ := own_set GK_len ho5 (by rw [List.length_set, hl2]) hb3 (show m < n by omega) y
      refine wr_storePart (cs := GK y) rfl rfl rfl (GK_one y) hb3 (GK_len y) (by omega) ?_
      (repeat first | (apply wr_move; exact rfl; with_reducible (conv => enter [6, 3]; whnf)) | (apply wr_assign; exact rfl; with_reducible (conv => enter [6, 3]; whnf)) | apply wr_end | apply wc_region | (apply wr_sub; (iterate 3 exact rfl); exact w_fit (by dsimp only [kIn]; first | done | omega)) | (apply wr_nil; try simp only [thenE, inBlockE, bodyQ]))
      refine ⟨(m, (l2.set (m + 1) x).set m y), by dsimp only; omega, ⟨by trivial, by dsimp only; omega, (ins_perm hx hy).trans hp2, ins_swap hs hin hx hy hxy, ho6, (hk23.trans hk3).put _ (fun _ => rfl)⟩, rfl, rfl, rfl, rfl, rfl, ?_, trivial⟩
      show Value.int .i64 (((m + 1 : Nat) : Int) - 1) = .int .i64 (m : Int)
      congr 1; omega
    · refine wc_drawP (l := _) 17 _ (by kernel_rfl) (by kernel_rfl) rfl (by kernel_rfl) (by kernel_rfl) (by decide) ?_
      apply chP_pure
      focus
        intro xx w' hk hF
        apply wr_move; exact rfl; with_reducible (conv => enter [6, 3]; whnf)
        apply wr_nil
        exact ⟨rfl, Keeps.refl _ _⟩
      focus (intro xx yy h; rfl)
      focus kernel_rfl
      apply chP_pure
      focus
        intro xx w' hk hF
        apply wr_move; exact rfl; with_reducible (conv => enter [6, 3]; whnf)
        apply wr_nil
        exact ⟨rfl, Keeps.refl _ _⟩
      focus (intro xx yy h; rfl)
      focus kernel_rfl
      apply chP_pure
      focus
        intro xx w' hk hF
        apply wr_cmp; (iterate 3 exact rfl); exact cmpT (by dsimp only [cmpP]; omega)
        apply wr_nil
        exact ⟨rfl, Keeps.refl _ _⟩
      focus (intro xx yy h; rfl)
      focus kernel_rfl
      apply chP_pure
      focus
        intro xx w' hk hF
        apply wr_move; exact rfl; with_reducible (conv => enter [6, 3]; whnf)
        apply wr_nil
        exact ⟨rfl, Keeps.refl _ _⟩
      focus (intro xx yy h; rfl)
      focus kernel_rfl
      apply chP_pure
      focus
        intro xx w' hk hF
        apply wr_move; exact rfl; with_reducible (conv => enter [6, 3]; whnf)
        apply wr_nil
        exact ⟨rfl, Keeps.refl _ _⟩
      focus (intro xx yy h; rfl)
      focus kernel_rfl
      apply chP_pure
      focus
        intro xx w' hk hF
        apply wr_move; exact rfl; with_reducible (conv => enter [6, 3]; whnf)
        apply wr_nil
        exact ⟨rfl, Keeps.refl _ _⟩
      focus (intro xx yy h; rfl)
      focus kernel_rfl
      apply chP_pure
      focus
        intro xx w' hk hF
        apply wr_move; exact rfl; with_reducible (conv => enter [6, 3]; whnf)
        apply wr_nil
        exact ⟨rfl, Keeps.refl _ _⟩
      focus (intro xx yy h; rfl)
      focus kernel_rfl
      apply chP_pure
      focus
        intro xx w' hk hF
        refine wr_indexAddr (i := m + 1) rfl rfl rfl (by omega) ?_
        apply wr_nil
        exact ⟨rfl, Keeps.refl _ _⟩
      focus (intro xx yy h; rfl)
      focus kernel_rfl
      apply chP_pure
      focus
        intro xx w' hk hF
        refine wr_loadElem (G := GK) (n := n) rfl rfl GK_len rfl ((hk0 hk).heap hb2 (fun h => h)) hr2 (by omega) hy rfl ?_
        apply wr_nil
        exact ⟨rfl, Keeps.refl _ _⟩
      focus (intro xx yy h; rfl)
      focus kernel_rfl
      apply chP_pure
      focus
        intro xx w' hk hF
        apply wr_move; exact rfl; with_reducible (conv => enter [6, 3]; whnf)
        apply wr_nil
        exact ⟨rfl, Keeps.refl _ _⟩
      focus (intro xx yy h; rfl)
      focus kernel_rfl
      apply chP_pure
      focus
        intro xx w' hk hF
        apply wr_move; exact rfl; with_reducible (conv => enter [6, 3]; whnf)
        apply wr_nil
        exact ⟨rfl, Keeps.refl _ _⟩
      focus (intro xx yy h; rfl)
      focus kernel_rfl
      apply chP_pure
      focus
        intro xx w' hk hF
        refine wr_sub (c := (m : Int)) rfl rfl rfl (by rw [w_i64 (by omega)]; omega) ?_
        apply wr_nil
        exact ⟨rfl, Keeps.refl _ _⟩
      focus (intro xx yy h; rfl)
      focus kernel_rfl
      apply chP_pure
      focus
        intro xx w' hk hF
        refine wr_indexAddr (i := m) rfl rfl rfl (by omega) ?_
        apply wr_nil
        exact ⟨rfl, Keeps.refl _ _⟩
      focus (intro xx yy h; rfl)
      focus kernel_rfl
      apply chP_pure
      focus
        intro xx w' hk hF
        refine wr_loadElem (G := GK) (n := n) rfl rfl GK_len rfl ((hk0 hk).heap hb2 (fun h => h)) hr2 (by omega) hx rfl ?_
        apply wr_nil
        exact ⟨rfl, Keeps.refl _ _⟩
      focus (intro xx yy h; rfl)
      focus kernel_rfl
      apply chP_pure
      focus
        intro xx w' hk hF
        refine wr_callv (vs := [.agg (GK y).toArray, .agg (GK x).toArray]) rfl (callV_func (first := #[]) (cap := #[]) hge (hg y x w')) rfl rfl ?_
        rintro v w'' ⟨rfl, hkc⟩
        apply wr_nil
        exact ⟨rfl, hkc⟩
      focus (intro xx yy h; rfl)
      focus kernel_rfl
      apply chP_pure
      focus
        intro xx w' hk hF
        apply wr_cmp; (iterate 3 exact rfl); exact cmpF (by dsimp only [cmpN]; omega)
        apply wr_nil
        exact ⟨rfl, Keeps.refl _ _⟩
      focus (intro xx yy h; rfl)
      focus kernel_rfl
      apply chP_pure
      focus
        intro xx w' hk hF
        apply wr_pick (t := true); (iterate 2 exact rfl); with_reducible (conv => enter [6, 3]; whnf)
        apply wr_nil
        exact ⟨rfl, Keeps.refl _ _⟩
      focus (intro xx yy h; rfl)
      focus kernel_rfl
      refine chP_nil ?_
      intro xx w3 hk3' hF
      have hk3 := hk0 hk3'
      (repeat first | (apply wr_move; exact rfl; with_reducible (conv => enter [6, 3]; whnf)) | (apply wr_assign; exact rfl; with_reducible (conv => enter [6, 3]; whnf)) | apply wr_end | apply wc_region | (apply wr_add; (iterate 3 exact rfl); exact w_fit (by dsimp only [kIn]; first | done | omega)) | (apply wc_false; exact rfl) | (apply wc_exit; try simp only [thenE, inBlockE, bodyQ, ↓reduceIte, Nat.reduceEqDiff]))
      exact ⟨(i + 1, l2), by dsimp only; omega, ⟨by trivial, hp2, ins_end hs hin hx hy hxy, own_keep ho2 hk3 (fun _ _ h => h), hk2.trans hk3.upD⟩, rfl, rfl, rfl, rfl, rfl, trivial⟩
set_option maxRecDepth 100000 in
theorem kpdq_ca {ord : KY → KY → Int} (hs : Strict (fun a b => ord a b < 0)) (g : FuncId) (hge : enterable Tryz.prog g = true) (hg : ∀ (a b : KY) (w : World), Ca Tryz.prog g #[.agg (GK a).toArray, .agg (GK b).toArray] w fun v w' => v = .int .i64 (ord a b) ∧ Keeps NoB w w')
    (base : Nat) (v : Value) (n : Nat) (l : List KY) (w : World) (hown : w.ownsRow base 36 2 v n (l.flatMap GK)) (hl : l.length = n) (hn : n ≤ 12) (z : Int) :
    Ca Tryz.prog 43 #[v, .int .i64 0, .int .i64 (n : Int), .int .i64 z, .func (.func g) #[] #[]] w fun r w' => r = .tuple #[] ∧
      ∃ l' : List KY, l'.Perm l ∧ SrtTo (fun a b => ord a b < 0) n l' ∧ w'.ownsRow base 36 2 v n (l'.flatMap GK) ∧ Keeps (fun k => v.ownBlock = some k) w w' := by
  refine ca_of_body (args := [v, .int .i64 0, .int .i64 (n : Int), .int .i64 z, .func (.func g) #[] #[]]) Tryz.func43 rfl (by kernel_rfl) ?_
  (repeat first | (apply wr_assign; exact rfl; with_reducible (conv => enter [6, 3]; whnf)) | apply wr_end | apply wc_seq | apply wc_region | apply wc_block)
  refine wc_loopL (α := Unit) (fun _ => [(0, v), (1, .int .i64 0), (2, .int .i64 (n : Int)), (4, .func (.func g) #[] #[])]) (fun _ ds w' => ds = [] ∧ w' = w) (fun _ => 0) () ⟨rfl, rfl⟩ ⟨rfl, rfl, rfl, rfl, trivial⟩ ?_
  rintro _ ds f0 w2 ⟨rfl, rfl⟩
  (repeat first | (apply wr_move; exact rfl; with_reducible (conv => enter [6, 3]; whnf)) | (apply wr_assign; exact rfl; with_reducible (conv => enter [6, 3]; whnf)) | apply wr_end | apply wc_seq | apply wc_region | apply wc_block | (apply wr_cmp; (iterate 3 exact rfl); exact cmpT (by dsimp only [cmpP]; first | done | omega)) | (apply wr_sub; (iterate 3 exact rfl); exact w_fit (by dsimp only [kIn]; first | done | omega)) | (apply wc_true; exact rfl))
  rcases own_cases hown with ⟨rfl, rfl⟩ | ⟨b, cap, rfl⟩
  · refine wr_call (vs := [.slice none 0 0, .int .i64 0, .int .i64 ((0 : Nat) : Int), .func (.func g) #[] #[]]) rfl (kins_none g w2) rfl ?_
    rintro v w3 ⟨rfl, rfl⟩
    (repeat first | apply wr_end | (apply wc_ret; try simp only [thenE, inBlockE, bodyQ]))
    try unfold bodyQ
    exact leave0 rfl ⟨rfl, l, List.Perm.refl _, fun p q a b hpq hq => by omega, hown, Keeps.refl _ _⟩
  · refine wr_call (vs := [.slice (some ⟨b, 0, none⟩) n cap, .int .i64 0, .int .i64 (n : Int), .func (.func g) #[] #[]]) rfl (kins_ca hs g hge hg base b cap n l w2 hown hl (by omega)) rfl ?_
    rintro v w3 ⟨rfl, l', h1, h2, h3, h4⟩
    (repeat first | apply wr_end | (apply wc_ret; try simp only [thenE, inBlockE, bodyQ]))
    try unfold bodyQ
    exact leave0 rfl ⟨rfl, l', h1, h2, h3, h4.mono fun k _ e => by rw [e]; rfl⟩
set_option maxRecDepth 100000 in
theorem ksort_ca {ord : KY → KY → Int} (hs : Strict (fun a b => ord a b < 0)) (g : FuncId) (hge : enterable Tryz.prog g = true) (hg : ∀ (a b : KY) (w : World), Ca Tryz.prog g #[.agg (GK a).toArray, .agg (GK b).toArray] w fun v w' => v = .int .i64 (ord a b) ∧ Keeps NoB w w')
    (base : Nat) (v : Value) (n : Nat) (l : List KY) (w : World) (hown : w.ownsRow base 36 2 v n (l.flatMap GK)) (hl : l.length = n) (hn : n ≤ 12) :
    Ca Tryz.prog 25 #[v, .func (.func g) #[] #[]] w fun r w' => r = .tuple #[] ∧
      ∃ l' : List KY, l'.Perm l ∧ (l'.Pairwise fun a b => ¬ ord b a < 0) ∧ w'.ownsRow base 36 2 v n (l'.flatMap GK) ∧ Keeps (fun k => v.ownBlock = some k) w w' := by
  obtain ⟨a, c, hv⟩ := own_sl' hown
  subst hv
  refine ca_of_body (args := [.slice a n c, .func (.func g) #[] #[]]) Tryz.func25 rfl (by kernel_rfl) ?_
  (repeat first | (apply wr_move; exact rfl; with_reducible (conv => enter [6, 3]; whnf)) | (apply wr_assign; exact rfl; with_reducible (conv => enter [6, 3]; whnf)) | apply wr_end | apply wc_seq | apply wc_region | (apply wr_len_slice; iterate 2 exact rfl) | (apply wr_conv; (iterate 2 exact rfl); exact w_fit (by dsimp only [kIn]; first | done | omega)))
  refine wr_call (vs := [.int .u64 (n : Int)]) rfl (bitsLen_ca n (by omega) w) rfl ?_
  rintro v w3 ⟨rfl, rfl⟩
  (repeat first | (apply wr_move; exact rfl; with_reducible (conv => enter [6, 3]; whnf)))
  refine wr_call (vs := [.slice a n c, .int .i64 0, .int .i64 (n : Int), .int .i64 (Lib.bitLen n : Int), .func (.func g) #[] #[]]) rfl (kpdq_ca hs g hge hg base _ n l w3 hown hl hn _) rfl ?_
  rintro v w4 ⟨rfl, l', h1, h2, h3, h4⟩
  (repeat first | (apply wr_nil; try simp only [thenE, inBlockE, bodyQ]))
  try unfold bodyQ
  refine leave0 rfl ⟨rfl, l', h1, srt_pairwise (lt := fun a b => ord a b < 0) (by rw [h1.length_eq, hl]; exact h2), h3, h4⟩
theorem ordK_strict : Strict (fun a b : KY => ordK a b < 0) where
  asym := fun a b h h' => by
    rw [ordK_lt] at h h'
    unfold ltK at h h'
    rcases h with h | ⟨h1, h2⟩ <;> rcases h' with h' | ⟨h1', h2'⟩
    · omega
    · omega
    · omega
    · exact absurd (List.lt_trans h2 h2') (List.lt_irrefl _)
  ntr := fun a b c h h' => by
    rw [ordK_lt] at h h' ⊢
    unfold ltK at h h' ⊢
    intro hc
    have h1 : ¬ b.1 < a.1 := fun e => h (.inl e)
    have h2 : ¬ c.1 < b.1 := fun e => h' (.inl e)
    rcases hc with hc | ⟨e, hc⟩
    · omega
    · have e1 : b.1 = a.1 := by omega
      have e2 : c.1 = b.1 := by omega
      have h3 : ¬ b.2 < a.2 := fun x => h (.inr ⟨e1, x⟩)
      have h4 : ¬ c.2 < b.2 := fun x => h' (.inr ⟨e2, x⟩)
      have h5 : a.2 ≤ b.2 := List.not_lt.1 h3
      have h6 : b.2 ≤ c.2 := List.not_lt.1 h4
      exact absurd hc (List.not_lt.2 (List.le_trans h5 h6))
theorem kOrder_ca (base : Nat) (v : Value) (n : Nat) (l : List KY) (w : World) (hown : w.ownsRow base 36 2 v n (l.flatMap GK)) (hl : l.length = n) (hn : n ≤ 12) :
    Ca Tryz.prog 25 #[v, .func (.func 26) #[] #[]] w fun r w' => r = .tuple #[] ∧
      ∃ l' : List KY, l'.Perm l ∧ (l'.Pairwise fun a b => ¬ ltK b a) ∧ w'.ownsRow base 36 2 v n (l'.flatMap GK) ∧ Keeps (fun k => v.ownBlock = some k) w w' := by
  refine (ksort_ca ordK_strict 26 (by kernel_rfl) (fun a b w => order_ca a b w) base v n l w hown hl hn).mono ?_
  rintro r w' ⟨h1, l', h2, h3, h4⟩
  exact ⟨h1, l', h2, h3.imp fun h => by rwa [ordK_lt] at h, h4⟩
end Go.Proofs.YtjaojihogmnjhaaGreatDoor
