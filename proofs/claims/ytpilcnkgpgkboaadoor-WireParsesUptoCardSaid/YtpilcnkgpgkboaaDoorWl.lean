/- norialaw01.bend: it gives bytes, as many. -/
import Derived.Test.YtpilcnkgpgkboaaDoorWj
import Derived.Test.YtpilcnkgpgkboaaDoorVD
namespace Go.Proofs.YtpilcnkgpgkboaaDoor
open Go Go.V Go.RowKit
set_option linter.unusedVariables false
set_option linter.unusedSimpArgs false

set_option maxRecDepth 100000 in
set_option maxHeartbeats 2000000 in
theorem bend_nil (at' by' : Int) (w : World) : Ca Tryd.prog 24 #[S [], .int .i64 at', .int .u8 by'] w fun v w' => v = S [] ∧ w' = w := by
  refine ca_of_body (args := [S [], .int .i64 at', .int .u8 by']) Tryd.func24 rfl (by kernel_rfl) ?_
  repeat first
    | ((first | apply wr_move | apply wr_assign); exact rfl; with_reducible (conv => enter [6, 3]; whnf))
    | (first | apply wr_end | apply wc_seq | apply wc_region | apply wc_skip | apply wc_block)
    | ((first | apply wr_fieldAddr | apply wr_not | apply wr_len_str | apply wr_len_slice | apply wr_box); iterate 2 exact rfl)
    | (apply wr_load; (iterate 3 exact rfl); (focus repeat first | with_reducible assumption | exact heap_alloc_same _ _ | exact World.putObj_heap_same (by first | omega | (simp only [World.size_alloc, World.putObj_size, ne_eq]; omega)) | ((first | refine hAl ?_ ?_ | refine hPu ?_ ?_); focus first | omega | (simp only [World.size_alloc, World.putObj_size, ne_eq]; omega))); exact rfl; conv => enter [6, 3]; whnf)
    | (apply wr_cmp; (iterate 3 exact rfl); (first | exact cmpT (by dsimp only [cmpP]; first | done | omega) | exact cmpF (by dsimp only [cmpN]; first | done | omega) | exact cmp_lt _ _ | exact cmp_le _ _ | exact cmp_gt _ _ | exact cmp_ge _ _ | exact cmp_eq _ _ | exact cmp_ne _ _))
    | (apply wr_pick (t := true); (iterate 2 exact rfl); with_reducible (conv => enter [6, 3]; whnf))
    | (apply wr_pick (t := false); (iterate 2 exact rfl); with_reducible (conv => enter [6, 3]; whnf))
    | ((first | apply wr_add | apply wr_sub | apply wr_mul); (iterate 3 exact rfl); (first | exact w_fit (by dsimp only [kIn]; first | done | omega) | with_reducible assumption | rfl))
    | (apply wr_conv; (iterate 2 exact rfl); (first | exact w_fit (by dsimp only [kIn]; first | done | omega) | with_reducible assumption | rfl))
    | (apply wr_alloc; exact rfl)
    | (apply wr_extract; (iterate 3 exact rfl); with_reducible (conv => enter [6, 3]; whnf))
    | (apply wr_store; (iterate 3 exact rfl); (first | exact rfl | with_reducible assumption); (focus repeat first | with_reducible assumption | exact heap_alloc_same _ _ | exact World.putObj_heap_same (by first | omega | (simp only [World.size_alloc, World.putObj_size, ne_eq]; omega)) | ((first | refine hAl ?_ ?_ | refine hPu ?_ ?_); focus first | omega | (simp only [World.size_alloc, World.putObj_size, ne_eq]; omega))); exact rfl)
    | (apply wr_cat; (iterate 3 exact rfl); (first | omega | (simp only [List.length_append]; omega)))
    | (apply wr_streqc; (iterate 3 exact rfl); (first | exact decide_eq_true (by with_reducible assumption) | exact decide_eq_false (by with_reducible assumption) | exact decide_eq_true rfl | exact rfl))
    | (apply wr_strnec; (iterate 3 exact rfl); (first | exact decide_eq_true (by with_reducible assumption) | exact decide_eq_false (by with_reducible assumption) | exact decide_eq_true rfl | exact rfl); with_reducible (conv => enter [6, 3]; whnf))
    | (apply wr_bits; exact rfl; (focus (simp; done)); (iterate 2 exact rfl); assumption)
    | (apply wr_eqnil_t; iterate 2 exact rfl)
    | (apply wr_eqnil_f; iterate 2 exact rfl)
    | (apply wr_nenil_f; iterate 2 exact rfl)
    | (apply wr_nenil_t; iterate 2 exact rfl)
    | (apply wc_true; exact rfl)
    | (apply wc_false; exact rfl)
    | (apply wc_exit; try simp only [thenE, inBlockE, bodyQ, ↓reduceIte, Nat.reduceEqDiff])
    | ((first | apply wc_ret | apply wr_nil); try simp only [thenE, inBlockE, bodyQ])
    | (apply wr_skip; exact rfl)
  exact leave1 (v := S []) rfl rfl ⟨rfl, rfl⟩
theorem wr_neg {P : Program} {ops : Array Oper} {Q : Post} {ds : List Deferred} {f : Env} {w : World} {rest : List Oper} {d : Option Nat} {ty : TypeId} {pos : String} {af : Array Edge} {g : Option (Nat × Bool)} {t : TypeId} {x : Operand} {k : IntKind} {a c : Int} (hw : wantedE ops f ⟨d, .unOp .neg t x, ty, pos, af, g⟩ = true) (hx : ev f x = .int k a) (hc : k.wrap (-a) = c) (kk : Wr P ops Q ds rest (setO f d (.int k c)) w) :
    Wr P ops Q ds (⟨d, .unOp .neg t x, ty, pos, af, g⟩ :: rest) f w :=
  wr_v (s := Op.unary .neg (ev f x)) hw rfl (by rw [hx, ← hc]; simp [Op.unary, Op.intArith]) kk
set_option maxRecDepth 100000 in
set_option maxHeartbeats 4000000 in
theorem bend_ca (s : List UInt8) (at' : Int) (by' : UInt8) (hs : s.length ≤ 1000000000) (ha : -9223372036854775808 ≤ at' ∧ at' ≤ 9223372036854775807) (w : World) : Ca Tryd.prog 24 #[S s, .int .i64 at', .int .u8 (by'.toNat : Int)] w fun v w' => (∃ s', v = S s' ∧ s'.length = s.length) ∧ Keeps NoB w w' := by
  by_cases h0 : s = []
  · subst h0
    exact (bend_nil at' _ w).mono fun v w' ⟨h1, h2⟩ => ⟨⟨[], h1, rfl⟩, by rw [h2]; exact Keeps.refl _ _⟩
  have hpos : 0 < s.length := Nat.pos_of_ne_zero fun h => h0 (List.eq_nil_of_length_eq_zero h)
  refine ca_of_body (args := [S s, .int .i64 at', .int .u8 (by'.toNat : Int)]) Tryd.func24 rfl (by kernel_rfl) ?_
  obtain ⟨a, haa⟩ : ∃ a : Nat, (at' < 0 ∧ (a : Int) = -(at' + 1)) ∨ (0 ≤ at' ∧ (a : Int) = at') := by
    by_cases h : at' < 0
    · exact ⟨(-(at' + 1)).toNat, .inl ⟨h, by omega⟩⟩
    · exact ⟨at'.toNat, .inr ⟨by omega, by omega⟩⟩
  rcases haa with ⟨hn, ha'⟩ | ⟨hn, ha'⟩
  all_goals
    repeat first
      | ((first | apply wr_move | apply wr_assign); exact rfl; with_reducible (conv => enter [6, 3]; whnf))
      | (first | apply wr_end | apply wc_seq | apply wc_region | apply wc_skip | apply wc_block)
      | ((first | apply wr_fieldAddr | apply wr_not | apply wr_len_str | apply wr_len_slice | apply wr_box); iterate 2 exact rfl)
      | (apply wr_load; (iterate 3 exact rfl); (focus repeat first | with_reducible assumption | exact heap_alloc_same _ _ | exact World.putObj_heap_same (by first | omega | (simp only [World.size_alloc, World.putObj_size, ne_eq]; omega)) | ((first | refine hAl ?_ ?_ | refine hPu ?_ ?_); focus first | omega | (simp only [World.size_alloc, World.putObj_size, ne_eq]; omega))); exact rfl; conv => enter [6, 3]; whnf)
      | (apply wr_cmp; (iterate 3 exact rfl); (first | exact cmpT (by dsimp only [cmpP]; first | done | omega) | exact cmpF (by dsimp only [cmpN]; first | done | omega) | exact cmp_lt _ _ | exact cmp_le _ _ | exact cmp_gt _ _ | exact cmp_ge _ _ | exact cmp_eq _ _ | exact cmp_ne _ _))
      | (apply wr_pick (t := true); (iterate 2 exact rfl); with_reducible (conv => enter [6, 3]; whnf))
      | (apply wr_pick (t := false); (iterate 2 exact rfl); with_reducible (conv => enter [6, 3]; whnf))
      | ((first | apply wr_add | apply wr_sub | apply wr_mul); (iterate 3 exact rfl); (first | exact w_fit (by dsimp only [kIn]; first | done | omega) | with_reducible assumption | rfl))
      | (apply wr_conv; (iterate 2 exact rfl); (first | exact w_fit (by dsimp only [kIn]; first | done | omega) | with_reducible assumption | rfl))
      | (apply wr_alloc; exact rfl)
      | (apply wr_extract; (iterate 3 exact rfl); with_reducible (conv => enter [6, 3]; whnf))
      | (apply wr_store; (iterate 3 exact rfl); (first | exact rfl | with_reducible assumption); (focus repeat first | with_reducible assumption | exact heap_alloc_same _ _ | exact World.putObj_heap_same (by first | omega | (simp only [World.size_alloc, World.putObj_size, ne_eq]; omega)) | ((first | refine hAl ?_ ?_ | refine hPu ?_ ?_); focus first | omega | (simp only [World.size_alloc, World.putObj_size, ne_eq]; omega))); exact rfl)
      | (apply wr_cat; (iterate 3 exact rfl); (first | omega | (simp only [List.length_append]; omega)))
      | (apply wr_streqc; (iterate 3 exact rfl); (first | exact decide_eq_true (by with_reducible assumption) | exact decide_eq_false (by with_reducible assumption) | exact decide_eq_true rfl | exact rfl))
      | (apply wr_strnec; (iterate 3 exact rfl); (first | exact decide_eq_true (by with_reducible assumption) | exact decide_eq_false (by with_reducible assumption) | exact decide_eq_true rfl | exact rfl); with_reducible (conv => enter [6, 3]; whnf))
      | (apply wr_bits; exact rfl; (focus (simp; done)); (iterate 2 exact rfl); assumption)
      | (apply wr_eqnil_t; iterate 2 exact rfl)
      | (apply wr_eqnil_f; iterate 2 exact rfl)
      | (apply wr_nenil_f; iterate 2 exact rfl)
      | (apply wr_nenil_t; iterate 2 exact rfl)
      | (apply wc_true; exact rfl)
      | (apply wc_false; exact rfl)
      | (apply wc_exit; try simp only [thenE, inBlockE, bodyQ, ↓reduceIte, Nat.reduceEqDiff])
      | ((first | apply wc_ret | apply wr_nil); try simp only [thenE, inBlockE, bodyQ])
      | (apply wr_skip; exact rfl)
    try (refine wr_neg (c := (a : Int)) rfl rfl (by rw [← ha']; exact w_i64 (by omega)) ?_; (repeat first
  | ((first | apply wr_move | apply wr_assign); exact rfl; with_reducible (conv => enter [6, 3]; whnf))
  | (first | apply wr_end | apply wc_seq | apply wc_region | apply wc_skip | apply wc_block)
  | ((first | apply wr_fieldAddr | apply wr_not | apply wr_len_str | apply wr_len_slice | apply wr_box); iterate 2 exact rfl)
  | (apply wr_load; (iterate 3 exact rfl); (focus repeat first | with_reducible assumption | exact heap_alloc_same _ _ | exact World.putObj_heap_same (by first | omega | (simp only [World.size_alloc, World.putObj_size, ne_eq]; omega)) | ((first | refine hAl ?_ ?_ | refine hPu ?_ ?_); focus first | omega | (simp only [World.size_alloc, World.putObj_size, ne_eq]; omega))); exact rfl; conv => enter [6, 3]; whnf)
  | (apply wr_cmp; (iterate 3 exact rfl); (first | exact cmpT (by dsimp only [cmpP]; first | done | omega) | exact cmpF (by dsimp only [cmpN]; first | done | omega) | exact cmp_lt _ _ | exact cmp_le _ _ | exact cmp_gt _ _ | exact cmp_ge _ _ | exact cmp_eq _ _ | exact cmp_ne _ _))
  | (apply wr_pick (t := true); (iterate 2 exact rfl); with_reducible (conv => enter [6, 3]; whnf))
  | (apply wr_pick (t := false); (iterate 2 exact rfl); with_reducible (conv => enter [6, 3]; whnf))
  | ((first | apply wr_add | apply wr_sub | apply wr_mul); (iterate 3 exact rfl); (first | exact w_fit (by dsimp only [kIn]; first | done | omega) | with_reducible assumption | rfl))
  | (apply wr_conv; (iterate 2 exact rfl); (first | exact w_fit (by dsimp only [kIn]; first | done | omega) | with_reducible assumption | rfl))
  | (apply wr_alloc; exact rfl)
  | (apply wr_extract; (iterate 3 exact rfl); with_reducible (conv => enter [6, 3]; whnf))
  | (apply wr_store; (iterate 3 exact rfl); (first | exact rfl | with_reducible assumption); (focus repeat first | with_reducible assumption | exact heap_alloc_same _ _ | exact World.putObj_heap_same (by first | omega | (simp only [World.size_alloc, World.putObj_size, ne_eq]; omega)) | ((first | refine hAl ?_ ?_ | refine hPu ?_ ?_); focus first | omega | (simp only [World.size_alloc, World.putObj_size, ne_eq]; omega))); exact rfl)
  | (apply wr_cat; (iterate 3 exact rfl); (first | omega | (simp only [List.length_append]; omega)))
  | (apply wr_streqc; (iterate 3 exact rfl); (first | exact decide_eq_true (by with_reducible assumption) | exact decide_eq_false (by with_reducible assumption) | exact decide_eq_true rfl | exact rfl))
  | (apply wr_strnec; (iterate 3 exact rfl); (first | exact decide_eq_true (by with_reducible assumption) | exact decide_eq_false (by with_reducible assumption) | exact decide_eq_true rfl | exact rfl); with_reducible (conv => enter [6, 3]; whnf))
  | (apply wr_bits; exact rfl; (focus (simp; done)); (iterate 2 exact rfl); assumption)
  | (apply wr_eqnil_t; iterate 2 exact rfl)
  | (apply wr_eqnil_f; iterate 2 exact rfl)
  | (apply wr_nenil_f; iterate 2 exact rfl)
  | (apply wr_nenil_t; iterate 2 exact rfl)
  | (apply wc_true; exact rfl)
  | (apply wc_false; exact rfl)
  | (apply wc_exit; try simp only [thenE, inBlockE, bodyQ, ↓reduceIte, Nat.reduceEqDiff])
  | ((first | apply wc_ret | apply wr_nil); try simp only [thenE, inBlockE, bodyQ])
  | (apply wr_skip; exact rfl)))
    try rw [← ha']
    refine wr_str2bytes (l := s) rfl rfl (by unfold maxLen; omega) ?_
    intro v w2 hM hk2
    have hM0 := hM
    obtain ⟨hl, gb, cap, cur, fr, rfl, hbg, hgb, hnc, hcm, hcs, htk, hfz⟩ := hM0
    have hj : a % s.length < s.length := Nat.mod_lt _ hpos
    obtain ⟨b, hb⟩ : ∃ b, s[a % s.length]? = some b := ⟨s[a % s.length], by rw [List.getElem?_eq_getElem]⟩
    have hcb : cur[0 + a % s.length * 1]? = some (.int .u8 (b.toNat : Int)) := by
      have h1 : (bytesV s)[a % s.length]? = some (.int .u8 (b.toNat : Int)) := by simp [bytesV, hb]
      rw [← htk, List.getElem?_take_of_lt hj] at h1
      rw [Nat.zero_add, Nat.mul_one]
      simpa using h1
    repeat first
      | ((first | apply wr_move | apply wr_assign); exact rfl; with_reducible (conv => enter [6, 3]; whnf))
      | (first | apply wr_end | apply wc_seq | apply wc_region | apply wc_skip | apply wc_block)
      | ((first | apply wr_fieldAddr | apply wr_not | apply wr_len_str | apply wr_len_slice | apply wr_box); iterate 2 exact rfl)
      | (apply wr_load; (iterate 3 exact rfl); (focus repeat first | with_reducible assumption | exact heap_alloc_same _ _ | exact World.putObj_heap_same (by first | omega | (simp only [World.size_alloc, World.putObj_size, ne_eq]; omega)) | ((first | refine hAl ?_ ?_ | refine hPu ?_ ?_); focus first | omega | (simp only [World.size_alloc, World.putObj_size, ne_eq]; omega))); exact rfl; conv => enter [6, 3]; whnf)
      | (apply wr_cmp; (iterate 3 exact rfl); (first | exact cmpT (by dsimp only [cmpP]; first | done | omega) | exact cmpF (by dsimp only [cmpN]; first | done | omega) | exact cmp_lt _ _ | exact cmp_le _ _ | exact cmp_gt _ _ | exact cmp_ge _ _ | exact cmp_eq _ _ | exact cmp_ne _ _))
      | (apply wr_pick (t := true); (iterate 2 exact rfl); with_reducible (conv => enter [6, 3]; whnf))
      | (apply wr_pick (t := false); (iterate 2 exact rfl); with_reducible (conv => enter [6, 3]; whnf))
      | ((first | apply wr_add | apply wr_sub | apply wr_mul); (iterate 3 exact rfl); (first | exact w_fit (by dsimp only [kIn]; first | done | omega) | with_reducible assumption | rfl))
      | (apply wr_conv; (iterate 2 exact rfl); (first | exact w_fit (by dsimp only [kIn]; first | done | omega) | with_reducible assumption | rfl))
      | (apply wr_alloc; exact rfl)
      | (apply wr_extract; (iterate 3 exact rfl); with_reducible (conv => enter [6, 3]; whnf))
      | (apply wr_store; (iterate 3 exact rfl); (first | exact rfl | with_reducible assumption); (focus repeat first | with_reducible assumption | exact heap_alloc_same _ _ | exact World.putObj_heap_same (by first | omega | (simp only [World.size_alloc, World.putObj_size, ne_eq]; omega)) | ((first | refine hAl ?_ ?_ | refine hPu ?_ ?_); focus first | omega | (simp only [World.size_alloc, World.putObj_size, ne_eq]; omega))); exact rfl)
      | (apply wr_cat; (iterate 3 exact rfl); (first | omega | (simp only [List.length_append]; omega)))
      | (apply wr_streqc; (iterate 3 exact rfl); (first | exact decide_eq_true (by with_reducible assumption) | exact decide_eq_false (by with_reducible assumption) | exact decide_eq_true rfl | exact rfl))
      | (apply wr_strnec; (iterate 3 exact rfl); (first | exact decide_eq_true (by with_reducible assumption) | exact decide_eq_false (by with_reducible assumption) | exact decide_eq_true rfl | exact rfl); with_reducible (conv => enter [6, 3]; whnf))
      | (apply wr_bits; exact rfl; (focus (simp; done)); (iterate 2 exact rfl); assumption)
      | (apply wr_eqnil_t; iterate 2 exact rfl)
      | (apply wr_eqnil_f; iterate 2 exact rfl)
      | (apply wr_nenil_f; iterate 2 exact rfl)
      | (apply wr_nenil_t; iterate 2 exact rfl)
      | (apply wc_true; exact rfl)
      | (apply wc_false; exact rfl)
      | (apply wc_exit; try simp only [thenE, inBlockE, bodyQ, ↓reduceIte, Nat.reduceEqDiff])
      | ((first | apply wc_ret | apply wr_nil); try simp only [thenE, inBlockE, bodyQ])
      | (apply wr_skip; exact rfl)
    refine wc_drawT (l := _) 14 (fun w' => w'.heap[gb]? = some (.cells cur 5 fr)) (by kernel_rfl) (by kernel_rfl) (by kernel_rfl) (by decide) ?_
    apply chR_step
    focus
      intro w' hS
      apply wr_move; exact rfl
      apply wr_nil
      exact ⟨rfl, rfl⟩
    apply chR_step
    focus
      intro w' hS
      apply wr_move; exact rfl
      apply wr_nil
      exact ⟨rfl, rfl⟩
    apply chR_step
    focus
      intro w' hS
      apply wr_move; exact rfl
      apply wr_nil
      exact ⟨rfl, rfl⟩
    apply chR_step
    focus
      intro w' hS
      apply wr_len_slice; exact rfl; exact rfl
      apply wr_nil
      exact ⟨rfl, rfl⟩
    apply chR_step
    focus
      intro w' hS
      refine wr_remN (n := a) (m := s.length) rfl rfl rfl (by omega) ?_
      apply wr_nil
      exact ⟨rfl, rfl⟩
    apply chR_step
    focus
      intro w' hS
      apply wr_move; exact rfl
      apply wr_nil
      exact ⟨rfl, rfl⟩
    apply chR_step
    focus
      intro w' hS
      apply wr_move; exact rfl
      apply wr_nil
      exact ⟨rfl, rfl⟩
    apply chR_step
    focus
      intro w' hS
      apply wr_move; exact rfl
      apply wr_nil
      exact ⟨rfl, rfl⟩
    apply chR_step
    focus
      intro w' hS
      apply wr_len_slice; exact rfl; exact rfl
      apply wr_nil
      exact ⟨rfl, rfl⟩
    apply chR_step
    focus
      intro w' hS
      refine wr_remN (n := a) (m := s.length) rfl rfl rfl (by omega) ?_
      apply wr_nil
      exact ⟨rfl, rfl⟩
    apply chR_step
    focus
      intro w' hS
      refine wr_indexAddr (i := a % s.length) rfl rfl rfl hj ?_
      apply wr_nil
      exact ⟨rfl, rfl⟩
    apply chR_step
    focus
      intro w' hS
      refine wr_load rfl rfl rfl hS hcb ?_
      apply wr_nil
      exact ⟨rfl, rfl⟩
    apply chR_step
    focus
      intro w' hS
      apply wr_move; exact rfl
      apply wr_nil
      exact ⟨rfl, rfl⟩
    apply chR_step
    focus
      intro w' hS
      refine wr_bits (c := bits .xor .u8 (b.toNat : Int) (by'.toNat : Int)) rfl (.inr (.inr (.inl rfl))) rfl rfl rfl ?_
      apply wr_nil
      exact ⟨rfl, rfl⟩
    refine chR_nil ?_
    refine sf_step hgb ?_
    refine wr_indexAddr (i := a % s.length) rfl rfl rfl hj ?_
    apply wr_nil
    refine sf_step hgb ?_
    obtain ⟨c8, hc8⟩ : ∃ c8 : UInt8, bits .xor .u8 (b.toNat : Int) (by'.toNat : Int) = (c8.toNat : Int) := ⟨b ^^^ by', by
      have h1 := b.toNat_lt
      have h2 := by'.toNat_lt
      rw [u8_xor _ _ (by omega) (by omega) (by omega) (by omega), UInt8.toNat_xor]; rfl⟩
    rw [hc8]
    refine wr_storeM (base := w.heap.size) (n := s.length) (cap := cap) rfl rfl rfl rfl (hM.keep (Keeps.refl NoB w2).drew (fun b hb h => h)) (by omega) ?_
    intro w3 hM3 hk3
    apply wr_nil
    refine sf_nil ?_
    have hset : (bytesV s).set (0 + a % s.length * 1) (.int .u8 (c8.toNat : Int)) = bytesV (s.set (a % s.length) c8) := by simp [bytesV, List.map_set]
    rw [hset] at hM3
    repeat first
      | ((first | apply wr_move | apply wr_assign); exact rfl; with_reducible (conv => enter [6, 3]; whnf))
      | (first | apply wr_end | apply wc_seq | apply wc_region | apply wc_skip | apply wc_block)
      | ((first | apply wr_fieldAddr | apply wr_not | apply wr_len_str | apply wr_len_slice | apply wr_box); iterate 2 exact rfl)
      | (apply wr_load; (iterate 3 exact rfl); (focus repeat first | with_reducible assumption | exact heap_alloc_same _ _ | exact World.putObj_heap_same (by first | omega | (simp only [World.size_alloc, World.putObj_size, ne_eq]; omega)) | ((first | refine hAl ?_ ?_ | refine hPu ?_ ?_); focus first | omega | (simp only [World.size_alloc, World.putObj_size, ne_eq]; omega))); exact rfl; conv => enter [6, 3]; whnf)
      | (apply wr_cmp; (iterate 3 exact rfl); (first | exact cmpT (by dsimp only [cmpP]; first | done | omega) | exact cmpF (by dsimp only [cmpN]; first | done | omega) | exact cmp_lt _ _ | exact cmp_le _ _ | exact cmp_gt _ _ | exact cmp_ge _ _ | exact cmp_eq _ _ | exact cmp_ne _ _))
      | (apply wr_pick (t := true); (iterate 2 exact rfl); with_reducible (conv => enter [6, 3]; whnf))
      | (apply wr_pick (t := false); (iterate 2 exact rfl); with_reducible (conv => enter [6, 3]; whnf))
      | ((first | apply wr_add | apply wr_sub | apply wr_mul); (iterate 3 exact rfl); (first | exact w_fit (by dsimp only [kIn]; first | done | omega) | with_reducible assumption | rfl))
      | (apply wr_conv; (iterate 2 exact rfl); (first | exact w_fit (by dsimp only [kIn]; first | done | omega) | with_reducible assumption | rfl))
      | (apply wr_alloc; exact rfl)
      | (apply wr_extract; (iterate 3 exact rfl); with_reducible (conv => enter [6, 3]; whnf))
      | (apply wr_store; (iterate 3 exact rfl); (first | exact rfl | with_reducible assumption); (focus repeat first | with_reducible assumption | exact heap_alloc_same _ _ | exact World.putObj_heap_same (by first | omega | (simp only [World.size_alloc, World.putObj_size, ne_eq]; omega)) | ((first | refine hAl ?_ ?_ | refine hPu ?_ ?_); focus first | omega | (simp only [World.size_alloc, World.putObj_size, ne_eq]; omega))); exact rfl)
      | (apply wr_cat; (iterate 3 exact rfl); (first | omega | (simp only [List.length_append]; omega)))
      | (apply wr_streqc; (iterate 3 exact rfl); (first | exact decide_eq_true (by with_reducible assumption) | exact decide_eq_false (by with_reducible assumption) | exact decide_eq_true rfl | exact rfl))
      | (apply wr_strnec; (iterate 3 exact rfl); (first | exact decide_eq_true (by with_reducible assumption) | exact decide_eq_false (by with_reducible assumption) | exact decide_eq_true rfl | exact rfl); with_reducible (conv => enter [6, 3]; whnf))
      | (apply wr_bits; exact rfl; (focus (simp; done)); (iterate 2 exact rfl); assumption)
      | (apply wr_eqnil_t; iterate 2 exact rfl)
      | (apply wr_eqnil_f; iterate 2 exact rfl)
      | (apply wr_nenil_f; iterate 2 exact rfl)
      | (apply wr_nenil_t; iterate 2 exact rfl)
      | (apply wc_true; exact rfl)
      | (apply wc_false; exact rfl)
      | (apply wc_exit; try simp only [thenE, inBlockE, bodyQ, ↓reduceIte, Nat.reduceEqDiff])
      | ((first | apply wc_ret | apply wr_nil); try simp only [thenE, inBlockE, bodyQ])
      | (apply wr_skip; exact rfl)
    refine wr_bytes2str (l := s.set (a % s.length) c8) rfl rfl hM3.slR ?_
    repeat first
      | ((first | apply wr_move | apply wr_assign); exact rfl; with_reducible (conv => enter [6, 3]; whnf))
      | (first | apply wr_end | apply wc_seq | apply wc_region | apply wc_skip | apply wc_block)
      | ((first | apply wr_fieldAddr | apply wr_not | apply wr_len_str | apply wr_len_slice | apply wr_box); iterate 2 exact rfl)
      | (apply wr_load; (iterate 3 exact rfl); (focus repeat first | with_reducible assumption | exact heap_alloc_same _ _ | exact World.putObj_heap_same (by first | omega | (simp only [World.size_alloc, World.putObj_size, ne_eq]; omega)) | ((first | refine hAl ?_ ?_ | refine hPu ?_ ?_); focus first | omega | (simp only [World.size_alloc, World.putObj_size, ne_eq]; omega))); exact rfl; conv => enter [6, 3]; whnf)
      | (apply wr_cmp; (iterate 3 exact rfl); (first | exact cmpT (by dsimp only [cmpP]; first | done | omega) | exact cmpF (by dsimp only [cmpN]; first | done | omega) | exact cmp_lt _ _ | exact cmp_le _ _ | exact cmp_gt _ _ | exact cmp_ge _ _ | exact cmp_eq _ _ | exact cmp_ne _ _))
      | (apply wr_pick (t := true); (iterate 2 exact rfl); with_reducible (conv => enter [6, 3]; whnf))
      | (apply wr_pick (t := false); (iterate 2 exact rfl); with_reducible (conv => enter [6, 3]; whnf))
      | ((first | apply wr_add | apply wr_sub | apply wr_mul); (iterate 3 exact rfl); (first | exact w_fit (by dsimp only [kIn]; first | done | omega) | with_reducible assumption | rfl))
      | (apply wr_conv; (iterate 2 exact rfl); (first | exact w_fit (by dsimp only [kIn]; first | done | omega) | with_reducible assumption | rfl))
      | (apply wr_alloc; exact rfl)
      | (apply wr_extract; (iterate 3 exact rfl); with_reducible (conv => enter [6, 3]; whnf))
      | (apply wr_store; (iterate 3 exact rfl); (first | exact rfl | with_reducible assumption); (focus repeat first | with_reducible assumption | exact heap_alloc_same _ _ | exact World.putObj_heap_same (by first | omega | (simp only [World.size_alloc, World.putObj_size, ne_eq]; omega)) | ((first | refine hAl ?_ ?_ | refine hPu ?_ ?_); focus first | omega | (simp only [World.size_alloc, World.putObj_size, ne_eq]; omega))); exact rfl)
      | (apply wr_cat; (iterate 3 exact rfl); (first | omega | (simp only [List.length_append]; omega)))
      | (apply wr_streqc; (iterate 3 exact rfl); (first | exact decide_eq_true (by with_reducible assumption) | exact decide_eq_false (by with_reducible assumption) | exact decide_eq_true rfl | exact rfl))
      | (apply wr_strnec; (iterate 3 exact rfl); (first | exact decide_eq_true (by with_reducible assumption) | exact decide_eq_false (by with_reducible assumption) | exact decide_eq_true rfl | exact rfl); with_reducible (conv => enter [6, 3]; whnf))
      | (apply wr_bits; exact rfl; (focus (simp; done)); (iterate 2 exact rfl); assumption)
      | (apply wr_eqnil_t; iterate 2 exact rfl)
      | (apply wr_eqnil_f; iterate 2 exact rfl)
      | (apply wr_nenil_f; iterate 2 exact rfl)
      | (apply wr_nenil_t; iterate 2 exact rfl)
      | (apply wc_true; exact rfl)
      | (apply wc_false; exact rfl)
      | (apply wc_exit; try simp only [thenE, inBlockE, bodyQ, ↓reduceIte, Nat.reduceEqDiff])
      | ((first | apply wc_ret | apply wr_nil); try simp only [thenE, inBlockE, bodyQ])
      | (apply wr_skip; exact rfl)
    exact leave1 (v := S (s.set (a % s.length) c8)) rfl rfl ⟨⟨_, rfl, by simp⟩, hk2.drew.trans' hk3 (fun j hj h => by omega)⟩
end Go.Proofs.YtpilcnkgpgkboaaDoor
