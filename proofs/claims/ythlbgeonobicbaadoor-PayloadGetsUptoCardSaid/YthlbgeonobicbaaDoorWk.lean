/- noriaref01.Put, Number, Text: what they do. -/
import Derived.Test.YthlbgeonobicbaaDoorM8
import Derived.Test.YthlbgeonobicbaaDoorM3
namespace Go.Proofs.YthlbgeonobicbaaDoor
open Go Go.V Go.RowKit
set_option linter.unusedVariables false
set_option linter.unusedSimpArgs false

theorem rvarint_ca' (z : Int) (h0 : 0 ≤ z) (h1 : z < 18446744073709551616) (w : World) :
    Ca Tryd.prog 65 #[.int .u64 z] w fun v w' => v = S (varint z.toNat) ∧ Keeps NoB w w' := by
  obtain ⟨n, rfl⟩ := Int.eq_ofNat_of_zero_le h0
  rw [Int.toNat_natCast]
  exact rvarint_ca n (by omega) w
set_option maxRecDepth 100000 in
set_option maxHeartbeats 8000000 in
theorem rput_ca (x : WF) (hx : x.ok) (w : World) : Ca Tryd.prog 48 #[x.v] w fun v w' => v = putV (putF x) ∧ Keeps NoB w w' := by
  obtain ⟨hnum, hkind, hn, hs⟩ := hx
  obtain ⟨num, kind, n, s⟩ := x
  simp only at hnum hkind hn hs
  by_cases hbad : num < 1 ∨ 536870912 ≤ num ∨ (kind ≠ 0 ∧ n ≠ 0)
  · have hnone : putF ⟨num, kind, n, s⟩ = none := if_pos hbad
    have hc : num < 1 ∨ (1 ≤ num ∧ 536870912 ≤ num) ∨ (1 ≤ num ∧ num < 536870912 ∧ kind ≠ 0 ∧ (n : Int) ≠ 0) := by omega
    clear hbad
    rcases hc with hc | hc | hc <;> refine ca_of_body (args := [.agg #[.int .i64 num, .int .i64 kind, .int .u64 (n : Int), S s]]) Tryd.func48 rfl (by kernel_rfl) ?_
    all_goals
      (repeat first | (apply wr_move; exact rfl; with_reducible (conv => enter [6, 3]; whnf)) | (apply wr_assign; exact rfl; with_reducible (conv => enter [6, 3]; whnf)) | apply wr_end | apply wc_seq | apply wc_region | (apply wr_fieldAddr; iterate 2 exact rfl) | (apply wr_box; iterate 2 exact rfl) | (apply wr_load; (iterate 3 exact rfl); (focus repeat first | with_reducible assumption | exact heap_alloc_same _ _ | exact World.putObj_heap_same (by first | omega | (simp only [World.size_alloc, World.putObj_size, ne_eq]; omega)) | ((first | refine hAl ?_ ?_ | refine hPu ?_ ?_); focus first | omega | (simp only [World.size_alloc, World.putObj_size, ne_eq]; omega))); exact rfl; conv => enter [6, 3]; whnf) | (apply wr_cmp; (iterate 3 exact rfl); exact cmpT (by dsimp only [cmpP]; first | done | omega)) | (apply wr_cmp; (iterate 3 exact rfl); exact cmpF (by dsimp only [cmpN]; first | done | omega)) | (apply wr_pick (t := true); (iterate 2 exact rfl); with_reducible (conv => enter [6, 3]; whnf)) | (apply wr_pick (t := false); (iterate 2 exact rfl); with_reducible (conv => enter [6, 3]; whnf)) | (apply wc_true; exact rfl) | (apply wc_ret; try simp only [thenE, inBlockE, bodyQ]) | (apply wr_skip; exact rfl))
      refine leave2 (v1 := S []) (v2 := .bool false) rfl rfl rfl ⟨by rw [hnone]; rfl, (Keeps.refl _ _).alloc _⟩
  · have hok : 1 ≤ num ∧ num < 536870912 := by omega
    have hkn : kind = 0 ∨ (kind ≠ 0 ∧ (n : Int) = 0) := by omega
    have hput := put_cases (num := num) (kind := kind) (n := n) (s := s) hbad
    clear hbad
    obtain ⟨K, hK⟩ : ∃ K, K = IntKind.u64.wrap kind := ⟨_, rfl⟩
    have hKr : 0 ≤ K ∧ K ≤ 18446744073709551615 ∧ (0 ≤ kind → K = kind) := by
      refine ⟨?_, ?_, fun h => by rw [hK]; exact w_u64 (by omega)⟩
      · rw [hK, IntKind.wrap_u64]; omega
      · rw [hK, IntKind.wrap_u64]; omega
    obtain ⟨T, hT⟩ : ∃ T, T = IntKind.u64.wrap (num * 8 + K) := ⟨_, rfl⟩
    have hTr : 0 ≤ T ∧ T < 18446744073709551616 ∧ (0 ≤ kind → kind < 8 → T = num * 8 + kind) := by
      refine ⟨?_, ?_, fun h h' => by rw [hT, hKr.2.2 h]; exact w_u64 (by omega)⟩
      · rw [hT, IntKind.wrap_u64]; omega
      · rw [hT, IntKind.wrap_u64]; omega
    have hall : (kind = 0 ∧ (s = [] ∧ putF ⟨num, kind, n, s⟩ = some (varint T.toNat ++ varint n) ∨ ¬ s = [] ∧ putF ⟨num, kind, n, s⟩ = none)) ∨
        (kind = 1 ∧ (s.length = 8 ∧ putF ⟨num, kind, n, s⟩ = some (varint T.toNat ++ s) ∨ s.length ≠ 8 ∧ putF ⟨num, kind, n, s⟩ = none)) ∨
        (kind = 5 ∧ (s.length = 4 ∧ putF ⟨num, kind, n, s⟩ = some (varint T.toNat ++ s) ∨ s.length ≠ 4 ∧ putF ⟨num, kind, n, s⟩ = none)) ∨
        (kind = 2 ∧ putF ⟨num, kind, n, s⟩ = some (varint T.toNat ++ varint s.length ++ s)) ∨
        (kind ≠ 0 ∧ kind ≠ 1 ∧ kind ≠ 5 ∧ kind ≠ 2 ∧ putF ⟨num, kind, n, s⟩ = none) := by
      rw [hput]
      by_cases h0 : kind = 0
      · subst h0
        rw [hTr.2.2 (by omega) (by omega), Int.add_zero]
        by_cases e : s = []
        · exact .inl ⟨rfl, .inl ⟨e, by rw [if_pos rfl, if_pos e]⟩⟩
        · exact .inl ⟨rfl, .inr ⟨e, by rw [if_pos rfl, if_neg e]⟩⟩
      · rw [if_neg h0]
        by_cases h1 : kind = 1
        · subst h1
          rw [hTr.2.2 (by omega) (by omega)]
          by_cases e : s.length = 8
          · exact .inr (.inl ⟨rfl, .inl ⟨e, by rw [if_pos rfl, if_pos e]⟩⟩)
          · exact .inr (.inl ⟨rfl, .inr ⟨e, by rw [if_pos rfl, if_neg e]⟩⟩)
        · rw [if_neg h1]
          by_cases h5 : kind = 5
          · subst h5
            rw [hTr.2.2 (by omega) (by omega)]
            by_cases e : s.length = 4
            · exact .inr (.inr (.inl ⟨rfl, .inl ⟨e, by rw [if_pos rfl, if_pos e]⟩⟩))
            · exact .inr (.inr (.inl ⟨rfl, .inr ⟨e, by rw [if_pos rfl, if_neg e]⟩⟩))
          · rw [if_neg h5]
            by_cases h2 : kind = 2
            · subst h2
              rw [hTr.2.2 (by omega) (by omega)]
              exact .inr (.inr (.inr (.inl ⟨rfl, by rw [if_pos rfl]⟩)))
            · exact .inr (.inr (.inr (.inr ⟨h0, h1, h5, h2, by rw [if_neg h2]⟩)))
    clear hput
    have hl1 := varint_len T.toNat (by omega)
    have hl2 := varint_len n hn
    have hl3 := varint_len s.length (by omega)
    rcases hkn with hkn | hkn <;> rcases hall with ⟨hc, h | h⟩ | ⟨hc, h | h⟩ | ⟨hc, h | h⟩ | ⟨hc, h⟩ | ⟨h0, h1, h5, h2, h⟩ <;> (try (exfalso; omega))
    all_goals
      refine ca_of_body (args := [.agg #[.int .i64 num, .int .i64 kind, .int .u64 (n : Int), S s]]) Tryd.func48 rfl (by kernel_rfl) ?_
      have hK' := hK.symm
      have hT' := hT.symm
      clear hK hT
      (repeat first | (apply wr_move; exact rfl; with_reducible (conv => enter [6, 3]; whnf)) | (apply wr_assign; exact rfl; with_reducible (conv => enter [6, 3]; whnf)) | apply wr_end | apply wc_seq | apply wc_region | apply wc_skip | (apply wr_fieldAddr; iterate 2 exact rfl) | (apply wr_box; iterate 2 exact rfl) | (apply wr_load; (iterate 3 exact rfl); (focus repeat first | with_reducible assumption | exact heap_alloc_same _ _ | exact World.putObj_heap_same (by first | omega | (simp only [World.size_alloc, World.putObj_size, ne_eq]; omega)) | ((first | refine hAl ?_ ?_ | refine hPu ?_ ?_); focus first | omega | (simp only [World.size_alloc, World.putObj_size, ne_eq]; omega))); exact rfl; conv => enter [6, 3]; whnf) | (apply wr_cmp; (iterate 3 exact rfl); exact cmpT (by dsimp only [cmpP]; first | done | omega)) | (apply wr_cmp; (iterate 3 exact rfl); exact cmpF (by dsimp only [cmpN]; first | done | omega)) | (apply wr_pick (t := true); (iterate 2 exact rfl); with_reducible (conv => enter [6, 3]; whnf)) | (apply wr_pick (t := false); (iterate 2 exact rfl); with_reducible (conv => enter [6, 3]; whnf)) | (apply wr_add; (iterate 3 exact rfl); exact w_fit (by dsimp only [kIn]; first | done | omega)) | (apply wr_add; (iterate 3 exact rfl); (first | exact w_fit (by dsimp only [kIn]; first | done | omega) | with_reducible assumption | rfl)) | (apply wr_mul; (iterate 3 exact rfl); exact w_fit (by dsimp only [kIn]; first | done | omega)) | (apply wr_conv; (iterate 2 exact rfl); exact w_fit (by dsimp only [kIn]; first | done | omega)) | (apply wr_conv; (iterate 2 exact rfl); (first | exact w_fit (by dsimp only [kIn]; first | done | omega) | with_reducible assumption | rfl)) | (apply wc_false; exact rfl) | (apply wr_skip; exact rfl))
    all_goals first
      | (have hTe := hTr.2.2 (by omega) (by omega)
         rw [hTe] at hl1
         try rw [hTe] at h
         refine wr_call rfl (rvarint_ca' (num * 8 + kind) (by omega) (by omega) _) rfl ?_
         rintro v w2 ⟨rfl, hk2⟩
         have hb2 := hk2.heap (heap_alloc_same _ _) (fun h => h)
         have hk0 := ((Keeps.refl NoB w).alloc (.cells (Value.agg #[.int .i64 num, .int .i64 kind, .int .u64 (n : Int), S s]).cells 88)).trans hk2
         obtain ⟨hs0, h⟩ := h
         (repeat first | (apply wr_move; exact rfl; with_reducible (conv => enter [6, 3]; whnf)) | (apply wr_assign; exact rfl; with_reducible (conv => enter [6, 3]; whnf)) | apply wr_end | apply wc_seq | apply wc_region | apply wc_skip | apply wc_block | (apply wr_fieldAddr; iterate 2 exact rfl) | (apply wr_len_str; iterate 2 exact rfl) | (apply wr_load; (iterate 3 exact rfl); (focus repeat first | with_reducible assumption | exact heap_alloc_same _ _ | exact World.putObj_heap_same (by first | omega | (simp only [World.size_alloc, World.putObj_size, ne_eq]; omega)) | ((first | refine hAl ?_ ?_ | refine hPu ?_ ?_); focus first | omega | (simp only [World.size_alloc, World.putObj_size, ne_eq]; omega))); exact rfl; conv => enter [6, 3]; whnf) | (apply wr_cmp; (iterate 3 exact rfl); exact cmpT (by dsimp only [cmpP]; first | done | omega)) | (apply wr_cmp; (iterate 3 exact rfl); exact cmpF (by dsimp only [cmpN]; first | done | omega)) | (apply wr_pick (t := true); (iterate 2 exact rfl); with_reducible (conv => enter [6, 3]; whnf)) | (apply wr_pick (t := false); (iterate 2 exact rfl); with_reducible (conv => enter [6, 3]; whnf)) | (apply wr_cat; (iterate 3 exact rfl); (first | omega | (simp only [List.length_append]; omega))) | (apply wr_streqc; (iterate 3 exact rfl); (first | exact decide_eq_true (by with_reducible assumption) | exact decide_eq_false (by with_reducible assumption) | exact decide_eq_true rfl | exact rfl)) | (apply wc_true; exact rfl) | (apply wc_false; exact rfl) | (apply wc_ret; try simp only [thenE, inBlockE, bodyQ]) | (apply wr_skip; exact rfl))
         first
           | exact leave2 (v1 := S []) (v2 := .bool false) rfl rfl rfl ⟨by rw [h]; rfl, hk0⟩
           | exact leave2 (v1 := S (varint (num * 8 + kind).toNat ++ s)) (v2 := .bool true) rfl rfl rfl ⟨by rw [h]; rfl, hk0⟩
           | (refine wr_call rfl (rvarint_ca n hn _) rfl ?_
              rintro v w3 ⟨rfl, hk3⟩
              (repeat first | (apply wr_assign; exact rfl; with_reducible (conv => enter [6, 3]; whnf)) | apply wr_end | (apply wr_cat; (iterate 3 exact rfl); (first | omega | (simp only [List.length_append]; omega))) | (apply wc_ret; try simp only [thenE, inBlockE, bodyQ]))
              exact leave2 (v1 := S (varint (num * 8 + kind).toNat ++ varint n)) (v2 := .bool true) rfl rfl rfl ⟨by rw [h]; rfl, hk0.trans hk3⟩))
      | (have hTe := hTr.2.2 (by omega) (by omega)
         rw [hTe] at hl1
         try rw [hTe] at h
         refine wr_call rfl (rvarint_ca' (num * 8 + kind) (by omega) (by omega) _) rfl ?_
         rintro v w2 ⟨rfl, hk2⟩
         have hb2 := hk2.heap (heap_alloc_same _ _) (fun h => h)
         have hk0 := ((Keeps.refl NoB w).alloc (.cells (Value.agg #[.int .i64 num, .int .i64 kind, .int .u64 (n : Int), S s]).cells 88)).trans hk2
         (repeat first | (apply wr_move; exact rfl; with_reducible (conv => enter [6, 3]; whnf)) | (apply wr_assign; exact rfl; with_reducible (conv => enter [6, 3]; whnf)) | apply wr_end | apply wc_seq | apply wc_region | apply wc_block | (apply wr_fieldAddr; iterate 2 exact rfl) | (apply wr_load; (iterate 3 exact rfl); (focus repeat first | with_reducible assumption | exact heap_alloc_same _ _ | exact World.putObj_heap_same (by first | omega | (simp only [World.size_alloc, World.putObj_size, ne_eq]; omega)) | ((first | refine hAl ?_ ?_ | refine hPu ?_ ?_); focus first | omega | (simp only [World.size_alloc, World.putObj_size, ne_eq]; omega))); exact rfl; conv => enter [6, 3]; whnf) | (apply wr_cmp; (iterate 3 exact rfl); exact cmpT (by dsimp only [cmpP]; first | done | omega)) | (apply wr_cmp; (iterate 3 exact rfl); exact cmpF (by dsimp only [cmpN]; first | done | omega)) | (apply wr_pick (t := false); (iterate 2 exact rfl); with_reducible (conv => enter [6, 3]; whnf)) | (apply wc_true; exact rfl) | (apply wc_false; exact rfl) | (apply wr_skip; exact rfl))
         refine wc_drawS (l := _) (S := fun w' => Keeps NoB w2 w') (by kernel_rfl) (by kernel_rfl) (Keeps.refl NoB w2).drew ?_
         apply ch_step
         focus
           intro w' hS
           apply wr_move; exact rfl
           apply wr_nil
           exact ⟨rfl, hS⟩
         apply ch_step
         focus
           intro w' hS
           refine wr_fieldAddr rfl rfl ?_
           apply wr_nil
           exact ⟨rfl, hS⟩
         apply ch_step
         focus
           intro w' hS
           refine wr_load rfl rfl rfl (hS.heap hb2 (fun h => h)) rfl ?_
           apply wr_nil
           exact ⟨rfl, hS⟩
         apply ch_step
         focus
           intro w' hS
           apply wr_len_str; exact rfl; exact rfl
           apply wr_nil
           exact ⟨rfl, hS⟩
         apply ch_step
         focus
           intro w' hS
           refine wr_conv rfl rfl (w_u64 (by omega)) ?_
           apply wr_nil
           exact ⟨rfl, hS⟩
         apply ch_step
         focus
           intro w' hS
           refine wr_call (vs := [.int .u64 (s.length : Int)]) rfl (rvarint_ca s.length (by omega) _) rfl ?_
           rintro v w'' ⟨rfl, hk''⟩
           apply wr_nil
           exact ⟨rfl, hS.trans hk''⟩
         apply ch_step
         focus
           intro w' hS
           refine wr_cat rfl rfl rfl (by omega) ?_
           apply wr_nil
           exact ⟨rfl, hS⟩
         apply ch_step
         focus
           intro w' hS
           refine wr_fieldAddr rfl rfl ?_
           apply wr_nil
           exact ⟨rfl, hS⟩
         apply ch_step
         focus
           intro w' hS
           refine wr_load rfl rfl rfl (hS.heap hb2 (fun h => h)) rfl ?_
           apply wr_nil
           exact ⟨rfl, hS⟩
         apply ch_step
         focus
           intro w' hS
           refine wr_cat rfl rfl rfl (by simp only [List.length_append]; omega) ?_
           apply wr_nil
           exact ⟨rfl, hS⟩
         apply ch_step
         focus
           intro w' hS
           apply wr_assign; exact rfl
           apply wr_nil
           exact ⟨rfl, hS⟩
         apply ch_step
         focus
           intro w' hS
           apply wr_assign; exact rfl
           apply wr_nil
           exact ⟨rfl, hS⟩
         refine ch_nil ?_
         intro w3 hk3
         (repeat first | (apply wc_ret; try simp only [thenE, inBlockE, bodyQ]))
         exact leave2 (v1 := S (varint (num * 8 + kind).toNat ++ varint s.length ++ s)) (v2 := .bool true) rfl rfl rfl ⟨by rw [h]; rfl, hk0.trans hk3⟩)
      | (refine wr_call rfl (rvarint_ca' T hTr.1 hTr.2.1 _) rfl ?_
         rintro v w2 ⟨rfl, hk2⟩
         have hb2 := hk2.heap (heap_alloc_same _ _) (fun h => h)
         have hk0 := ((Keeps.refl NoB w).alloc (.cells (Value.agg #[.int .i64 num, .int .i64 kind, .int .u64 (n : Int), S s]).cells 88)).trans hk2
         (repeat first | (apply wr_move; exact rfl; with_reducible (conv => enter [6, 3]; whnf)) | (apply wr_assign; exact rfl; with_reducible (conv => enter [6, 3]; whnf)) | apply wr_end | apply wc_seq | apply wc_region | apply wc_skip | apply wc_block | (apply wr_fieldAddr; iterate 2 exact rfl) | (apply wr_load; (iterate 3 exact rfl); (focus repeat first | with_reducible assumption | exact heap_alloc_same _ _ | exact World.putObj_heap_same (by first | omega | (simp only [World.size_alloc, World.putObj_size, ne_eq]; omega)) | ((first | refine hAl ?_ ?_ | refine hPu ?_ ?_); focus first | omega | (simp only [World.size_alloc, World.putObj_size, ne_eq]; omega))); exact rfl; conv => enter [6, 3]; whnf) | (apply wr_cmp; (iterate 3 exact rfl); exact cmpF (by dsimp only [cmpN]; first | done | omega)) | (apply wr_pick (t := false); (iterate 2 exact rfl); with_reducible (conv => enter [6, 3]; whnf)) | (apply wc_false; exact rfl) | (apply wc_ret; try simp only [thenE, inBlockE, bodyQ]) | (apply wr_skip; exact rfl))
         exact leave2 (v1 := S []) (v2 := .bool false) rfl rfl rfl ⟨by rw [h]; rfl, hk0⟩)
set_option maxRecDepth 100000 in
set_option maxHeartbeats 1000000 in
theorem rnumber_ca (num : Int) (n : Nat) (h1 : -9223372036854775808 ≤ num ∧ num ≤ 9223372036854775807) (h2 : n < 18446744073709551616) (w : World) :
    Ca Tryd.prog 47 #[.int .i64 num, .int .u64 (n : Int)] w fun v w' => v = S (numberF num n) ∧ Keeps NoB w w' := by
  refine ca_of_body (args := [.int .i64 num, .int .u64 (n : Int)]) Tryd.func47 rfl (by kernel_rfl) ?_
  (repeat first | (apply wr_move; exact rfl; with_reducible (conv => enter [6, 3]; whnf)) | (apply wr_assign; exact rfl; with_reducible (conv => enter [6, 3]; whnf)) | apply wr_end | apply wc_seq | apply wc_region)
  refine wr_build (ps := [(0, .int .i64 num), (2, .int .u64 (n : Int))]) (cs := [.int .i64 num, .int .i64 0, .int .u64 (n : Int), S []]) rfl rfl rfl rfl ?_
  refine wr_call (vs := [(⟨num, 0, n, []⟩ : WF).v]) rfl (rput_ca ⟨num, 0, n, []⟩ ⟨h1, by simp, h2, by simp⟩ _) rfl ?_
  rintro v w1 ⟨rfl, hk1⟩
  obtain ⟨b, hb⟩ := putV_get0 (putF ⟨num, 0, n, []⟩)
  rw [hb]
  (repeat first | (apply wr_move; exact rfl; with_reducible (conv => enter [6, 3]; whnf)) | (apply wr_assign; exact rfl; with_reducible (conv => enter [6, 3]; whnf)) | apply wr_end | apply wc_seq | apply wc_region | (apply wr_extract; (iterate 3 exact rfl); with_reducible (conv => enter [6, 3]; whnf)) | (apply wc_ret; try simp only [thenE, inBlockE, bodyQ]))
  exact leave1 (v := S (numberF num n)) rfl rfl ⟨rfl, hk1⟩
set_option maxRecDepth 100000 in
set_option maxHeartbeats 1000000 in
theorem rtext_ca (num : Int) (s : List UInt8) (h1 : -9223372036854775808 ≤ num ∧ num ≤ 9223372036854775807) (h2 : s.length ≤ 4611686018427387904) (w : World) :
    Ca Tryd.prog 31 #[.int .i64 num, S s] w fun v w' => v = S (textF num s) ∧ Keeps NoB w w' := by
  refine ca_of_body (args := [.int .i64 num, S s]) Tryd.func31 rfl (by kernel_rfl) ?_
  (repeat first | (apply wr_move; exact rfl; with_reducible (conv => enter [6, 3]; whnf)) | (apply wr_assign; exact rfl; with_reducible (conv => enter [6, 3]; whnf)) | apply wr_end | apply wc_seq | apply wc_region)
  refine wr_build (ps := [(0, .int .i64 num), (1, .int .i64 2), (3, S s)]) (cs := [.int .i64 num, .int .i64 2, .int .u64 0, S s]) rfl rfl rfl rfl ?_
  refine wr_call (vs := [(⟨num, 2, 0, s⟩ : WF).v]) rfl (rput_ca ⟨num, 2, 0, s⟩ ⟨h1, by simp, by simp, h2⟩ _) rfl ?_
  rintro v w1 ⟨rfl, hk1⟩
  obtain ⟨b, hb⟩ := putV_get0 (putF ⟨num, 2, 0, s⟩)
  rw [hb]
  (repeat first | (apply wr_move; exact rfl; with_reducible (conv => enter [6, 3]; whnf)) | (apply wr_assign; exact rfl; with_reducible (conv => enter [6, 3]; whnf)) | apply wr_end | apply wc_seq | apply wc_region | (apply wr_extract; (iterate 3 exact rfl); with_reducible (conv => enter [6, 3]; whnf)) | (apply wc_ret; try simp only [thenE, inBlockE, bodyQ]))
  exact leave1 (v := S (textF num s)) rfl rfl ⟨rfl, hk1⟩
end Go.Proofs.YthlbgeonobicbaaDoor
