/- norialaw01.WireNumbers: it is true. -/
import Derived.Test.YtpilcnkgpgkboaaDoorWj
namespace Go.Proofs.YtpilcnkgpgkboaaDoor
open Go Go.V Go.RowKit
set_option linter.unusedVariables false
set_option linter.unusedSimpArgs false

set_option maxRecDepth 100000 in
set_option maxHeartbeats 4000000 in
theorem wireNumbers_ca {p q : Addr} {w : World} (hg : Glo w p q) (n : Nat) (hn : n < 18446744073709551616) (s : List UInt8) (hs : s.length ≤ 9223372036854775807) :
    Ca Tryd.prog 3 #[.int .u64 (n : Int), S s] w fun v w' => v = .bool true ∧ Keeps NoB w w' := by
  refine ca_of_body (args := [.int .u64 (n : Int), S s]) Tryd.func3 rfl (by kernel_rfl) ?_
  repeat (first
        | (apply wr_move; exact rfl; with_reducible (conv => enter [6, 3]; whnf))
        | (apply wr_assign; exact rfl; with_reducible (conv => enter [6, 3]; whnf))
        | apply wr_end
        | apply wc_seq
        | apply wc_region
        | (apply wr_fieldAddr; exact rfl; exact rfl)
        | (apply wr_load; exact rfl; exact rfl; exact rfl; (first | with_reducible assumption | exact heap_alloc_same _ _ | ((repeat (first | refine (heap_alloc_ne _ _ (by (first | omega | (simp only [World.size_alloc, World.putObj_size, ne_eq]; omega)))).trans ?_ | refine (heap_put_ne _ _ (by (first | omega | (simp only [World.size_alloc, World.putObj_size, ne_eq]; omega)))).trans ?_)); (first | with_reducible assumption | exact heap_alloc_same _ _ | exact World.putObj_heap_same (by (first | omega | (simp only [World.size_alloc, World.putObj_size, ne_eq]; omega)))))); exact rfl; conv => enter [6, 3]; whnf)
        | (apply wr_cmp; exact rfl; exact rfl; exact rfl; (first | exact cmp_lt_t (by omega) | exact cmp_lt_f (by omega) | exact cmp_eq_t (by omega) | exact cmp_eq_f (by omega) | exact cmp_ne_t (by omega) | exact cmp_ne_f (by omega) | exact cmp_le_t (by omega) | exact cmp_le_f (by omega) | exact cmp_gt_t (by omega) | exact cmp_gt_f (by omega) | exact cmp_ge_t (by omega) | exact cmp_ge_f (by omega) | exact cmp_lt _ _ | exact cmp_le _ _ | exact cmp_gt _ _ | exact cmp_ge _ _ | exact cmp_eq _ _ | exact cmp_ne _ _))
        | (apply wr_pick (t := true); exact rfl; exact rfl; with_reducible (conv => enter [6, 3]; whnf))
        | (apply wr_pick (t := false); exact rfl; exact rfl; with_reducible (conv => enter [6, 3]; whnf))
        | (apply wr_add; exact rfl; exact rfl; exact rfl; (first | exact w_i64 (by omega) | exact w_u64 (by omega) | exact w_u8 (by omega) | exact w_u16 (by omega) | exact w_i32 (by omega) | exact w_u32 (by omega) | with_reducible assumption | rfl))
        | (apply wr_sub; exact rfl; exact rfl; exact rfl; (first | exact w_i64 (by omega) | exact w_u64 (by omega) | exact w_u8 (by omega) | exact w_u16 (by omega) | exact w_i32 (by omega) | exact w_u32 (by omega) | with_reducible assumption | rfl))
        | (apply wr_mul; exact rfl; exact rfl; exact rfl; (first | exact w_i64 (by omega) | exact w_u64 (by omega) | exact w_u8 (by omega) | exact w_u16 (by omega) | exact w_i32 (by omega) | exact w_u32 (by omega) | with_reducible assumption | rfl))
        | (apply wr_conv; exact rfl; exact rfl; (first | exact w_i64 (by omega) | exact w_u64 (by omega) | exact w_u8 (by omega) | exact w_u16 (by omega) | exact w_i32 (by omega) | exact w_u32 (by omega) | with_reducible assumption | rfl))
        | (apply wr_not; exact rfl; exact rfl)
        | (apply wr_extract; exact rfl; exact rfl; exact rfl; with_reducible (conv => enter [6, 3]; whnf))
        | (apply wr_len_str; exact rfl; exact rfl)
        | (apply wr_len_slice; exact rfl; exact rfl)
        | (apply wr_store; exact rfl; exact rfl; exact rfl; (first | exact rfl | with_reducible assumption); (first | with_reducible assumption | exact heap_alloc_same _ _ | ((repeat (first | refine (heap_alloc_ne _ _ (by (first | omega | (simp only [World.size_alloc, World.putObj_size, ne_eq]; omega)))).trans ?_ | refine (heap_put_ne _ _ (by (first | omega | (simp only [World.size_alloc, World.putObj_size, ne_eq]; omega)))).trans ?_)); (first | with_reducible assumption | exact heap_alloc_same _ _ | exact World.putObj_heap_same (by (first | omega | (simp only [World.size_alloc, World.putObj_size, ne_eq]; omega)))))); exact rfl)
        | (apply wr_box; exact rfl; exact rfl)
        | (apply wr_alloc; exact rfl)
        | (apply wr_cat; exact rfl; exact rfl; exact rfl; (first | omega | (simp only [List.length_append]; omega)))
        | (apply wr_streqc; exact rfl; exact rfl; exact rfl; (first | exact decide_eq_true (by with_reducible assumption) | exact decide_eq_false (by with_reducible assumption) | exact decide_eq_true rfl | exact rfl))
        | (apply wr_strnec; exact rfl; exact rfl; exact rfl; (first | exact decide_eq_true (by with_reducible assumption) | exact decide_eq_false (by with_reducible assumption) | exact decide_eq_true rfl | exact rfl); with_reducible (conv => enter [6, 3]; whnf))
        | (apply wr_bits; exact rfl; (focus (simp; done)); exact rfl; exact rfl; assumption)
        | (apply wr_eqnil_t; exact rfl; exact rfl)
        | (apply wr_eqnil_f; exact rfl; exact rfl)
        | (apply wr_nenil_f; exact rfl; exact rfl)
        | (apply wr_nenil_t; exact rfl; exact rfl)
        | (apply wc_true; exact rfl)
        | (apply wc_false; exact rfl)
        | apply wc_skip
        | apply wc_block
        | (apply wc_exit; try simp only [thenE, inBlockE, bodyQ, ↓reduceIte, Nat.reduceEqDiff])
        | (apply wc_ret; try simp only [thenE, inBlockE, bodyQ])
        | (apply wr_nil; try simp only [thenE, inBlockE, bodyQ])
        | (apply wr_skip; exact rfl))
  refine wr_call (vs := []) rfl (examples_ca hg) rfl ?_
  rintro v w1 ⟨rfl, hk1⟩
  repeat (first
        | (apply wr_move; exact rfl; with_reducible (conv => enter [6, 3]; whnf))
        | (apply wr_assign; exact rfl; with_reducible (conv => enter [6, 3]; whnf))
        | apply wr_end
        | apply wc_seq
        | apply wc_region
        | (apply wr_fieldAddr; exact rfl; exact rfl)
        | (apply wr_load; exact rfl; exact rfl; exact rfl; (first | with_reducible assumption | exact heap_alloc_same _ _ | ((repeat (first | refine (heap_alloc_ne _ _ (by (first | omega | (simp only [World.size_alloc, World.putObj_size, ne_eq]; omega)))).trans ?_ | refine (heap_put_ne _ _ (by (first | omega | (simp only [World.size_alloc, World.putObj_size, ne_eq]; omega)))).trans ?_)); (first | with_reducible assumption | exact heap_alloc_same _ _ | exact World.putObj_heap_same (by (first | omega | (simp only [World.size_alloc, World.putObj_size, ne_eq]; omega)))))); exact rfl; conv => enter [6, 3]; whnf)
        | (apply wr_cmp; exact rfl; exact rfl; exact rfl; (first | exact cmp_lt_t (by omega) | exact cmp_lt_f (by omega) | exact cmp_eq_t (by omega) | exact cmp_eq_f (by omega) | exact cmp_ne_t (by omega) | exact cmp_ne_f (by omega) | exact cmp_le_t (by omega) | exact cmp_le_f (by omega) | exact cmp_gt_t (by omega) | exact cmp_gt_f (by omega) | exact cmp_ge_t (by omega) | exact cmp_ge_f (by omega) | exact cmp_lt _ _ | exact cmp_le _ _ | exact cmp_gt _ _ | exact cmp_ge _ _ | exact cmp_eq _ _ | exact cmp_ne _ _))
        | (apply wr_pick (t := true); exact rfl; exact rfl; with_reducible (conv => enter [6, 3]; whnf))
        | (apply wr_pick (t := false); exact rfl; exact rfl; with_reducible (conv => enter [6, 3]; whnf))
        | (apply wr_add; exact rfl; exact rfl; exact rfl; (first | exact w_i64 (by omega) | exact w_u64 (by omega) | exact w_u8 (by omega) | exact w_u16 (by omega) | exact w_i32 (by omega) | exact w_u32 (by omega) | with_reducible assumption | rfl))
        | (apply wr_sub; exact rfl; exact rfl; exact rfl; (first | exact w_i64 (by omega) | exact w_u64 (by omega) | exact w_u8 (by omega) | exact w_u16 (by omega) | exact w_i32 (by omega) | exact w_u32 (by omega) | with_reducible assumption | rfl))
        | (apply wr_mul; exact rfl; exact rfl; exact rfl; (first | exact w_i64 (by omega) | exact w_u64 (by omega) | exact w_u8 (by omega) | exact w_u16 (by omega) | exact w_i32 (by omega) | exact w_u32 (by omega) | with_reducible assumption | rfl))
        | (apply wr_conv; exact rfl; exact rfl; (first | exact w_i64 (by omega) | exact w_u64 (by omega) | exact w_u8 (by omega) | exact w_u16 (by omega) | exact w_i32 (by omega) | exact w_u32 (by omega) | with_reducible assumption | rfl))
        | (apply wr_not; exact rfl; exact rfl)
        | (apply wr_extract; exact rfl; exact rfl; exact rfl; with_reducible (conv => enter [6, 3]; whnf))
        | (apply wr_len_str; exact rfl; exact rfl)
        | (apply wr_len_slice; exact rfl; exact rfl)
        | (apply wr_store; exact rfl; exact rfl; exact rfl; (first | exact rfl | with_reducible assumption); (first | with_reducible assumption | exact heap_alloc_same _ _ | ((repeat (first | refine (heap_alloc_ne _ _ (by (first | omega | (simp only [World.size_alloc, World.putObj_size, ne_eq]; omega)))).trans ?_ | refine (heap_put_ne _ _ (by (first | omega | (simp only [World.size_alloc, World.putObj_size, ne_eq]; omega)))).trans ?_)); (first | with_reducible assumption | exact heap_alloc_same _ _ | exact World.putObj_heap_same (by (first | omega | (simp only [World.size_alloc, World.putObj_size, ne_eq]; omega)))))); exact rfl)
        | (apply wr_box; exact rfl; exact rfl)
        | (apply wr_alloc; exact rfl)
        | (apply wr_cat; exact rfl; exact rfl; exact rfl; (first | omega | (simp only [List.length_append]; omega)))
        | (apply wr_streqc; exact rfl; exact rfl; exact rfl; (first | exact decide_eq_true (by with_reducible assumption) | exact decide_eq_false (by with_reducible assumption) | exact decide_eq_true rfl | exact rfl))
        | (apply wr_strnec; exact rfl; exact rfl; exact rfl; (first | exact decide_eq_true (by with_reducible assumption) | exact decide_eq_false (by with_reducible assumption) | exact decide_eq_true rfl | exact rfl); with_reducible (conv => enter [6, 3]; whnf))
        | (apply wr_bits; exact rfl; (focus (simp; done)); exact rfl; exact rfl; assumption)
        | (apply wr_eqnil_t; exact rfl; exact rfl)
        | (apply wr_eqnil_f; exact rfl; exact rfl)
        | (apply wr_nenil_f; exact rfl; exact rfl)
        | (apply wr_nenil_t; exact rfl; exact rfl)
        | (apply wc_true; exact rfl)
        | (apply wc_false; exact rfl)
        | apply wc_skip
        | apply wc_block
        | (apply wc_exit; try simp only [thenE, inBlockE, bodyQ, ↓reduceIte, Nat.reduceEqDiff])
        | (apply wc_ret; try simp only [thenE, inBlockE, bodyQ])
        | (apply wr_nil; try simp only [thenE, inBlockE, bodyQ])
        | (apply wr_skip; exact rfl))
  refine wr_call (vs := [S s]) rfl (readVarint_ca s _) rfl ?_
  rintro v w2 ⟨rfl, rfl⟩
  obtain ⟨a, k, ok, ha⟩ : ∃ (a k : Nat) (ok : Bool), rvV (readVarint s) = .tuple #[.int .u64 (a : Int), .int .i64 (k : Int), .bool ok] := by
    cases readVarint s with
    | none => exact ⟨0, 0, false, rfl⟩
    | some x => exact ⟨x.1, x.2, true, rfl⟩
  rw [ha]
  repeat (first
        | (apply wr_move; exact rfl; with_reducible (conv => enter [6, 3]; whnf))
        | (apply wr_assign; exact rfl; with_reducible (conv => enter [6, 3]; whnf))
        | apply wr_end
        | apply wc_seq
        | apply wc_region
        | (apply wr_fieldAddr; exact rfl; exact rfl)
        | (apply wr_load; exact rfl; exact rfl; exact rfl; (first | with_reducible assumption | exact heap_alloc_same _ _ | ((repeat (first | refine (heap_alloc_ne _ _ (by (first | omega | (simp only [World.size_alloc, World.putObj_size, ne_eq]; omega)))).trans ?_ | refine (heap_put_ne _ _ (by (first | omega | (simp only [World.size_alloc, World.putObj_size, ne_eq]; omega)))).trans ?_)); (first | with_reducible assumption | exact heap_alloc_same _ _ | exact World.putObj_heap_same (by (first | omega | (simp only [World.size_alloc, World.putObj_size, ne_eq]; omega)))))); exact rfl; conv => enter [6, 3]; whnf)
        | (apply wr_cmp; exact rfl; exact rfl; exact rfl; (first | exact cmp_lt_t (by omega) | exact cmp_lt_f (by omega) | exact cmp_eq_t (by omega) | exact cmp_eq_f (by omega) | exact cmp_ne_t (by omega) | exact cmp_ne_f (by omega) | exact cmp_le_t (by omega) | exact cmp_le_f (by omega) | exact cmp_gt_t (by omega) | exact cmp_gt_f (by omega) | exact cmp_ge_t (by omega) | exact cmp_ge_f (by omega) | exact cmp_lt _ _ | exact cmp_le _ _ | exact cmp_gt _ _ | exact cmp_ge _ _ | exact cmp_eq _ _ | exact cmp_ne _ _))
        | (apply wr_pick (t := true); exact rfl; exact rfl; with_reducible (conv => enter [6, 3]; whnf))
        | (apply wr_pick (t := false); exact rfl; exact rfl; with_reducible (conv => enter [6, 3]; whnf))
        | (apply wr_add; exact rfl; exact rfl; exact rfl; (first | exact w_i64 (by omega) | exact w_u64 (by omega) | exact w_u8 (by omega) | exact w_u16 (by omega) | exact w_i32 (by omega) | exact w_u32 (by omega) | with_reducible assumption | rfl))
        | (apply wr_sub; exact rfl; exact rfl; exact rfl; (first | exact w_i64 (by omega) | exact w_u64 (by omega) | exact w_u8 (by omega) | exact w_u16 (by omega) | exact w_i32 (by omega) | exact w_u32 (by omega) | with_reducible assumption | rfl))
        | (apply wr_mul; exact rfl; exact rfl; exact rfl; (first | exact w_i64 (by omega) | exact w_u64 (by omega) | exact w_u8 (by omega) | exact w_u16 (by omega) | exact w_i32 (by omega) | exact w_u32 (by omega) | with_reducible assumption | rfl))
        | (apply wr_conv; exact rfl; exact rfl; (first | exact w_i64 (by omega) | exact w_u64 (by omega) | exact w_u8 (by omega) | exact w_u16 (by omega) | exact w_i32 (by omega) | exact w_u32 (by omega) | with_reducible assumption | rfl))
        | (apply wr_not; exact rfl; exact rfl)
        | (apply wr_extract; exact rfl; exact rfl; exact rfl; with_reducible (conv => enter [6, 3]; whnf))
        | (apply wr_len_str; exact rfl; exact rfl)
        | (apply wr_len_slice; exact rfl; exact rfl)
        | (apply wr_store; exact rfl; exact rfl; exact rfl; (first | exact rfl | with_reducible assumption); (first | with_reducible assumption | exact heap_alloc_same _ _ | ((repeat (first | refine (heap_alloc_ne _ _ (by (first | omega | (simp only [World.size_alloc, World.putObj_size, ne_eq]; omega)))).trans ?_ | refine (heap_put_ne _ _ (by (first | omega | (simp only [World.size_alloc, World.putObj_size, ne_eq]; omega)))).trans ?_)); (first | with_reducible assumption | exact heap_alloc_same _ _ | exact World.putObj_heap_same (by (first | omega | (simp only [World.size_alloc, World.putObj_size, ne_eq]; omega)))))); exact rfl)
        | (apply wr_box; exact rfl; exact rfl)
        | (apply wr_alloc; exact rfl)
        | (apply wr_cat; exact rfl; exact rfl; exact rfl; (first | omega | (simp only [List.length_append]; omega)))
        | (apply wr_streqc; exact rfl; exact rfl; exact rfl; (first | exact decide_eq_true (by with_reducible assumption) | exact decide_eq_false (by with_reducible assumption) | exact decide_eq_true rfl | exact rfl))
        | (apply wr_strnec; exact rfl; exact rfl; exact rfl; (first | exact decide_eq_true (by with_reducible assumption) | exact decide_eq_false (by with_reducible assumption) | exact decide_eq_true rfl | exact rfl); with_reducible (conv => enter [6, 3]; whnf))
        | (apply wr_bits; exact rfl; (focus (simp; done)); exact rfl; exact rfl; assumption)
        | (apply wr_eqnil_t; exact rfl; exact rfl)
        | (apply wr_eqnil_f; exact rfl; exact rfl)
        | (apply wr_nenil_f; exact rfl; exact rfl)
        | (apply wr_nenil_t; exact rfl; exact rfl)
        | (apply wc_true; exact rfl)
        | (apply wc_false; exact rfl)
        | apply wc_skip
        | apply wc_block
        | (apply wc_exit; try simp only [thenE, inBlockE, bodyQ, ↓reduceIte, Nat.reduceEqDiff])
        | (apply wc_ret; try simp only [thenE, inBlockE, bodyQ])
        | (apply wr_nil; try simp only [thenE, inBlockE, bodyQ])
        | (apply wr_skip; exact rfl))
  refine wr_call (vs := [S s]) rfl (rreadVarint_ca s hs _) rfl ?_
  rintro v w2 ⟨rfl, rfl⟩
  rw [ha]
  repeat (first
        | (apply wr_move; exact rfl; with_reducible (conv => enter [6, 3]; whnf))
        | (apply wr_assign; exact rfl; with_reducible (conv => enter [6, 3]; whnf))
        | apply wr_end
        | apply wc_seq
        | apply wc_region
        | (apply wr_fieldAddr; exact rfl; exact rfl)
        | (apply wr_load; exact rfl; exact rfl; exact rfl; (first | with_reducible assumption | exact heap_alloc_same _ _ | ((repeat (first | refine (heap_alloc_ne _ _ (by (first | omega | (simp only [World.size_alloc, World.putObj_size, ne_eq]; omega)))).trans ?_ | refine (heap_put_ne _ _ (by (first | omega | (simp only [World.size_alloc, World.putObj_size, ne_eq]; omega)))).trans ?_)); (first | with_reducible assumption | exact heap_alloc_same _ _ | exact World.putObj_heap_same (by (first | omega | (simp only [World.size_alloc, World.putObj_size, ne_eq]; omega)))))); exact rfl; conv => enter [6, 3]; whnf)
        | (apply wr_cmp; exact rfl; exact rfl; exact rfl; (first | exact cmp_lt_t (by omega) | exact cmp_lt_f (by omega) | exact cmp_eq_t (by omega) | exact cmp_eq_f (by omega) | exact cmp_ne_t (by omega) | exact cmp_ne_f (by omega) | exact cmp_le_t (by omega) | exact cmp_le_f (by omega) | exact cmp_gt_t (by omega) | exact cmp_gt_f (by omega) | exact cmp_ge_t (by omega) | exact cmp_ge_f (by omega) | exact cmp_lt _ _ | exact cmp_le _ _ | exact cmp_gt _ _ | exact cmp_ge _ _ | exact cmp_eq _ _ | exact cmp_ne _ _))
        | (apply wr_pick (t := true); exact rfl; exact rfl; with_reducible (conv => enter [6, 3]; whnf))
        | (apply wr_pick (t := false); exact rfl; exact rfl; with_reducible (conv => enter [6, 3]; whnf))
        | (apply wr_add; exact rfl; exact rfl; exact rfl; (first | exact w_i64 (by omega) | exact w_u64 (by omega) | exact w_u8 (by omega) | exact w_u16 (by omega) | exact w_i32 (by omega) | exact w_u32 (by omega) | with_reducible assumption | rfl))
        | (apply wr_sub; exact rfl; exact rfl; exact rfl; (first | exact w_i64 (by omega) | exact w_u64 (by omega) | exact w_u8 (by omega) | exact w_u16 (by omega) | exact w_i32 (by omega) | exact w_u32 (by omega) | with_reducible assumption | rfl))
        | (apply wr_mul; exact rfl; exact rfl; exact rfl; (first | exact w_i64 (by omega) | exact w_u64 (by omega) | exact w_u8 (by omega) | exact w_u16 (by omega) | exact w_i32 (by omega) | exact w_u32 (by omega) | with_reducible assumption | rfl))
        | (apply wr_conv; exact rfl; exact rfl; (first | exact w_i64 (by omega) | exact w_u64 (by omega) | exact w_u8 (by omega) | exact w_u16 (by omega) | exact w_i32 (by omega) | exact w_u32 (by omega) | with_reducible assumption | rfl))
        | (apply wr_not; exact rfl; exact rfl)
        | (apply wr_extract; exact rfl; exact rfl; exact rfl; with_reducible (conv => enter [6, 3]; whnf))
        | (apply wr_len_str; exact rfl; exact rfl)
        | (apply wr_len_slice; exact rfl; exact rfl)
        | (apply wr_store; exact rfl; exact rfl; exact rfl; (first | exact rfl | with_reducible assumption); (first | with_reducible assumption | exact heap_alloc_same _ _ | ((repeat (first | refine (heap_alloc_ne _ _ (by (first | omega | (simp only [World.size_alloc, World.putObj_size, ne_eq]; omega)))).trans ?_ | refine (heap_put_ne _ _ (by (first | omega | (simp only [World.size_alloc, World.putObj_size, ne_eq]; omega)))).trans ?_)); (first | with_reducible assumption | exact heap_alloc_same _ _ | exact World.putObj_heap_same (by (first | omega | (simp only [World.size_alloc, World.putObj_size, ne_eq]; omega)))))); exact rfl)
        | (apply wr_box; exact rfl; exact rfl)
        | (apply wr_alloc; exact rfl)
        | (apply wr_cat; exact rfl; exact rfl; exact rfl; (first | omega | (simp only [List.length_append]; omega)))
        | (apply wr_streqc; exact rfl; exact rfl; exact rfl; (first | exact decide_eq_true (by with_reducible assumption) | exact decide_eq_false (by with_reducible assumption) | exact decide_eq_true rfl | exact rfl))
        | (apply wr_strnec; exact rfl; exact rfl; exact rfl; (first | exact decide_eq_true (by with_reducible assumption) | exact decide_eq_false (by with_reducible assumption) | exact decide_eq_true rfl | exact rfl); with_reducible (conv => enter [6, 3]; whnf))
        | (apply wr_bits; exact rfl; (focus (simp; done)); exact rfl; exact rfl; assumption)
        | (apply wr_eqnil_t; exact rfl; exact rfl)
        | (apply wr_eqnil_f; exact rfl; exact rfl)
        | (apply wr_nenil_f; exact rfl; exact rfl)
        | (apply wr_nenil_t; exact rfl; exact rfl)
        | (apply wc_true; exact rfl)
        | (apply wc_false; exact rfl)
        | apply wc_skip
        | apply wc_block
        | (apply wc_exit; try simp only [thenE, inBlockE, bodyQ, ↓reduceIte, Nat.reduceEqDiff])
        | (apply wc_ret; try simp only [thenE, inBlockE, bodyQ])
        | (apply wr_nil; try simp only [thenE, inBlockE, bodyQ])
        | (apply wr_skip; exact rfl))
  refine wr_call (vs := [.int .u64 (n : Int)]) rfl (varint_ca n hn _) rfl ?_
  rintro v w3 ⟨rfl, hk3⟩
  repeat (first
        | (apply wr_move; exact rfl; with_reducible (conv => enter [6, 3]; whnf))
        | (apply wr_assign; exact rfl; with_reducible (conv => enter [6, 3]; whnf))
        | apply wr_end
        | apply wc_seq
        | apply wc_region
        | (apply wr_fieldAddr; exact rfl; exact rfl)
        | (apply wr_load; exact rfl; exact rfl; exact rfl; (first | with_reducible assumption | exact heap_alloc_same _ _ | ((repeat (first | refine (heap_alloc_ne _ _ (by (first | omega | (simp only [World.size_alloc, World.putObj_size, ne_eq]; omega)))).trans ?_ | refine (heap_put_ne _ _ (by (first | omega | (simp only [World.size_alloc, World.putObj_size, ne_eq]; omega)))).trans ?_)); (first | with_reducible assumption | exact heap_alloc_same _ _ | exact World.putObj_heap_same (by (first | omega | (simp only [World.size_alloc, World.putObj_size, ne_eq]; omega)))))); exact rfl; conv => enter [6, 3]; whnf)
        | (apply wr_cmp; exact rfl; exact rfl; exact rfl; (first | exact cmp_lt_t (by omega) | exact cmp_lt_f (by omega) | exact cmp_eq_t (by omega) | exact cmp_eq_f (by omega) | exact cmp_ne_t (by omega) | exact cmp_ne_f (by omega) | exact cmp_le_t (by omega) | exact cmp_le_f (by omega) | exact cmp_gt_t (by omega) | exact cmp_gt_f (by omega) | exact cmp_ge_t (by omega) | exact cmp_ge_f (by omega) | exact cmp_lt _ _ | exact cmp_le _ _ | exact cmp_gt _ _ | exact cmp_ge _ _ | exact cmp_eq _ _ | exact cmp_ne _ _))
        | (apply wr_pick (t := true); exact rfl; exact rfl; with_reducible (conv => enter [6, 3]; whnf))
        | (apply wr_pick (t := false); exact rfl; exact rfl; with_reducible (conv => enter [6, 3]; whnf))
        | (apply wr_add; exact rfl; exact rfl; exact rfl; (first | exact w_i64 (by omega) | exact w_u64 (by omega) | exact w_u8 (by omega) | exact w_u16 (by omega) | exact w_i32 (by omega) | exact w_u32 (by omega) | with_reducible assumption | rfl))
        | (apply wr_sub; exact rfl; exact rfl; exact rfl; (first | exact w_i64 (by omega) | exact w_u64 (by omega) | exact w_u8 (by omega) | exact w_u16 (by omega) | exact w_i32 (by omega) | exact w_u32 (by omega) | with_reducible assumption | rfl))
        | (apply wr_mul; exact rfl; exact rfl; exact rfl; (first | exact w_i64 (by omega) | exact w_u64 (by omega) | exact w_u8 (by omega) | exact w_u16 (by omega) | exact w_i32 (by omega) | exact w_u32 (by omega) | with_reducible assumption | rfl))
        | (apply wr_conv; exact rfl; exact rfl; (first | exact w_i64 (by omega) | exact w_u64 (by omega) | exact w_u8 (by omega) | exact w_u16 (by omega) | exact w_i32 (by omega) | exact w_u32 (by omega) | with_reducible assumption | rfl))
        | (apply wr_not; exact rfl; exact rfl)
        | (apply wr_extract; exact rfl; exact rfl; exact rfl; with_reducible (conv => enter [6, 3]; whnf))
        | (apply wr_len_str; exact rfl; exact rfl)
        | (apply wr_len_slice; exact rfl; exact rfl)
        | (apply wr_store; exact rfl; exact rfl; exact rfl; (first | exact rfl | with_reducible assumption); (first | with_reducible assumption | exact heap_alloc_same _ _ | ((repeat (first | refine (heap_alloc_ne _ _ (by (first | omega | (simp only [World.size_alloc, World.putObj_size, ne_eq]; omega)))).trans ?_ | refine (heap_put_ne _ _ (by (first | omega | (simp only [World.size_alloc, World.putObj_size, ne_eq]; omega)))).trans ?_)); (first | with_reducible assumption | exact heap_alloc_same _ _ | exact World.putObj_heap_same (by (first | omega | (simp only [World.size_alloc, World.putObj_size, ne_eq]; omega)))))); exact rfl)
        | (apply wr_box; exact rfl; exact rfl)
        | (apply wr_alloc; exact rfl)
        | (apply wr_cat; exact rfl; exact rfl; exact rfl; (first | omega | (simp only [List.length_append]; omega)))
        | (apply wr_streqc; exact rfl; exact rfl; exact rfl; (first | exact decide_eq_true (by with_reducible assumption) | exact decide_eq_false (by with_reducible assumption) | exact decide_eq_true rfl | exact rfl))
        | (apply wr_strnec; exact rfl; exact rfl; exact rfl; (first | exact decide_eq_true (by with_reducible assumption) | exact decide_eq_false (by with_reducible assumption) | exact decide_eq_true rfl | exact rfl); with_reducible (conv => enter [6, 3]; whnf))
        | (apply wr_bits; exact rfl; (focus (simp; done)); exact rfl; exact rfl; assumption)
        | (apply wr_eqnil_t; exact rfl; exact rfl)
        | (apply wr_eqnil_f; exact rfl; exact rfl)
        | (apply wr_nenil_f; exact rfl; exact rfl)
        | (apply wr_nenil_t; exact rfl; exact rfl)
        | (apply wc_true; exact rfl)
        | (apply wc_false; exact rfl)
        | apply wc_skip
        | apply wc_block
        | (apply wc_exit; try simp only [thenE, inBlockE, bodyQ, ↓reduceIte, Nat.reduceEqDiff])
        | (apply wc_ret; try simp only [thenE, inBlockE, bodyQ])
        | (apply wr_nil; try simp only [thenE, inBlockE, bodyQ])
        | (apply wr_skip; exact rfl))
  refine wr_call (vs := [.int .u64 (n : Int)]) rfl (rvarint_ca n hn _) rfl ?_
  rintro v w4 ⟨rfl, hk4⟩
  repeat (first
        | (apply wr_move; exact rfl; with_reducible (conv => enter [6, 3]; whnf))
        | (apply wr_assign; exact rfl; with_reducible (conv => enter [6, 3]; whnf))
        | apply wr_end
        | apply wc_seq
        | apply wc_region
        | (apply wr_fieldAddr; exact rfl; exact rfl)
        | (apply wr_load; exact rfl; exact rfl; exact rfl; (first | with_reducible assumption | exact heap_alloc_same _ _ | ((repeat (first | refine (heap_alloc_ne _ _ (by (first | omega | (simp only [World.size_alloc, World.putObj_size, ne_eq]; omega)))).trans ?_ | refine (heap_put_ne _ _ (by (first | omega | (simp only [World.size_alloc, World.putObj_size, ne_eq]; omega)))).trans ?_)); (first | with_reducible assumption | exact heap_alloc_same _ _ | exact World.putObj_heap_same (by (first | omega | (simp only [World.size_alloc, World.putObj_size, ne_eq]; omega)))))); exact rfl; conv => enter [6, 3]; whnf)
        | (apply wr_cmp; exact rfl; exact rfl; exact rfl; (first | exact cmp_lt_t (by omega) | exact cmp_lt_f (by omega) | exact cmp_eq_t (by omega) | exact cmp_eq_f (by omega) | exact cmp_ne_t (by omega) | exact cmp_ne_f (by omega) | exact cmp_le_t (by omega) | exact cmp_le_f (by omega) | exact cmp_gt_t (by omega) | exact cmp_gt_f (by omega) | exact cmp_ge_t (by omega) | exact cmp_ge_f (by omega) | exact cmp_lt _ _ | exact cmp_le _ _ | exact cmp_gt _ _ | exact cmp_ge _ _ | exact cmp_eq _ _ | exact cmp_ne _ _))
        | (apply wr_pick (t := true); exact rfl; exact rfl; with_reducible (conv => enter [6, 3]; whnf))
        | (apply wr_pick (t := false); exact rfl; exact rfl; with_reducible (conv => enter [6, 3]; whnf))
        | (apply wr_add; exact rfl; exact rfl; exact rfl; (first | exact w_i64 (by omega) | exact w_u64 (by omega) | exact w_u8 (by omega) | exact w_u16 (by omega) | exact w_i32 (by omega) | exact w_u32 (by omega) | with_reducible assumption | rfl))
        | (apply wr_sub; exact rfl; exact rfl; exact rfl; (first | exact w_i64 (by omega) | exact w_u64 (by omega) | exact w_u8 (by omega) | exact w_u16 (by omega) | exact w_i32 (by omega) | exact w_u32 (by omega) | with_reducible assumption | rfl))
        | (apply wr_mul; exact rfl; exact rfl; exact rfl; (first | exact w_i64 (by omega) | exact w_u64 (by omega) | exact w_u8 (by omega) | exact w_u16 (by omega) | exact w_i32 (by omega) | exact w_u32 (by omega) | with_reducible assumption | rfl))
        | (apply wr_conv; exact rfl; exact rfl; (first | exact w_i64 (by omega) | exact w_u64 (by omega) | exact w_u8 (by omega) | exact w_u16 (by omega) | exact w_i32 (by omega) | exact w_u32 (by omega) | with_reducible assumption | rfl))
        | (apply wr_not; exact rfl; exact rfl)
        | (apply wr_extract; exact rfl; exact rfl; exact rfl; with_reducible (conv => enter [6, 3]; whnf))
        | (apply wr_len_str; exact rfl; exact rfl)
        | (apply wr_len_slice; exact rfl; exact rfl)
        | (apply wr_store; exact rfl; exact rfl; exact rfl; (first | exact rfl | with_reducible assumption); (first | with_reducible assumption | exact heap_alloc_same _ _ | ((repeat (first | refine (heap_alloc_ne _ _ (by (first | omega | (simp only [World.size_alloc, World.putObj_size, ne_eq]; omega)))).trans ?_ | refine (heap_put_ne _ _ (by (first | omega | (simp only [World.size_alloc, World.putObj_size, ne_eq]; omega)))).trans ?_)); (first | with_reducible assumption | exact heap_alloc_same _ _ | exact World.putObj_heap_same (by (first | omega | (simp only [World.size_alloc, World.putObj_size, ne_eq]; omega)))))); exact rfl)
        | (apply wr_box; exact rfl; exact rfl)
        | (apply wr_alloc; exact rfl)
        | (apply wr_cat; exact rfl; exact rfl; exact rfl; (first | omega | (simp only [List.length_append]; omega)))
        | (apply wr_streqc; exact rfl; exact rfl; exact rfl; (first | exact decide_eq_true (by with_reducible assumption) | exact decide_eq_false (by with_reducible assumption) | exact decide_eq_true rfl | exact rfl))
        | (apply wr_strnec; exact rfl; exact rfl; exact rfl; (first | exact decide_eq_true (by with_reducible assumption) | exact decide_eq_false (by with_reducible assumption) | exact decide_eq_true rfl | exact rfl); with_reducible (conv => enter [6, 3]; whnf))
        | (apply wr_bits; exact rfl; (focus (simp; done)); exact rfl; exact rfl; assumption)
        | (apply wr_eqnil_t; exact rfl; exact rfl)
        | (apply wr_eqnil_f; exact rfl; exact rfl)
        | (apply wr_nenil_f; exact rfl; exact rfl)
        | (apply wr_nenil_t; exact rfl; exact rfl)
        | (apply wc_true; exact rfl)
        | (apply wc_false; exact rfl)
        | apply wc_skip
        | apply wc_block
        | (apply wc_exit; try simp only [thenE, inBlockE, bodyQ, ↓reduceIte, Nat.reduceEqDiff])
        | (apply wc_ret; try simp only [thenE, inBlockE, bodyQ])
        | (apply wr_nil; try simp only [thenE, inBlockE, bodyQ])
        | (apply wr_skip; exact rfl))
  refine wr_boolEq (c := true) rfl rfl rfl (by simp) ?_
  repeat (first
        | (apply wr_move; exact rfl; with_reducible (conv => enter [6, 3]; whnf))
        | (apply wr_assign; exact rfl; with_reducible (conv => enter [6, 3]; whnf))
        | apply wr_end
        | apply wc_seq
        | apply wc_region
        | (apply wr_fieldAddr; exact rfl; exact rfl)
        | (apply wr_load; exact rfl; exact rfl; exact rfl; (first | with_reducible assumption | exact heap_alloc_same _ _ | ((repeat (first | refine (heap_alloc_ne _ _ (by (first | omega | (simp only [World.size_alloc, World.putObj_size, ne_eq]; omega)))).trans ?_ | refine (heap_put_ne _ _ (by (first | omega | (simp only [World.size_alloc, World.putObj_size, ne_eq]; omega)))).trans ?_)); (first | with_reducible assumption | exact heap_alloc_same _ _ | exact World.putObj_heap_same (by (first | omega | (simp only [World.size_alloc, World.putObj_size, ne_eq]; omega)))))); exact rfl; conv => enter [6, 3]; whnf)
        | (apply wr_cmp; exact rfl; exact rfl; exact rfl; (first | exact cmp_lt_t (by omega) | exact cmp_lt_f (by omega) | exact cmp_eq_t (by omega) | exact cmp_eq_f (by omega) | exact cmp_ne_t (by omega) | exact cmp_ne_f (by omega) | exact cmp_le_t (by omega) | exact cmp_le_f (by omega) | exact cmp_gt_t (by omega) | exact cmp_gt_f (by omega) | exact cmp_ge_t (by omega) | exact cmp_ge_f (by omega) | exact cmp_lt _ _ | exact cmp_le _ _ | exact cmp_gt _ _ | exact cmp_ge _ _ | exact cmp_eq _ _ | exact cmp_ne _ _))
        | (apply wr_pick (t := true); exact rfl; exact rfl; with_reducible (conv => enter [6, 3]; whnf))
        | (apply wr_pick (t := false); exact rfl; exact rfl; with_reducible (conv => enter [6, 3]; whnf))
        | (apply wr_add; exact rfl; exact rfl; exact rfl; (first | exact w_i64 (by omega) | exact w_u64 (by omega) | exact w_u8 (by omega) | exact w_u16 (by omega) | exact w_i32 (by omega) | exact w_u32 (by omega) | with_reducible assumption | rfl))
        | (apply wr_sub; exact rfl; exact rfl; exact rfl; (first | exact w_i64 (by omega) | exact w_u64 (by omega) | exact w_u8 (by omega) | exact w_u16 (by omega) | exact w_i32 (by omega) | exact w_u32 (by omega) | with_reducible assumption | rfl))
        | (apply wr_mul; exact rfl; exact rfl; exact rfl; (first | exact w_i64 (by omega) | exact w_u64 (by omega) | exact w_u8 (by omega) | exact w_u16 (by omega) | exact w_i32 (by omega) | exact w_u32 (by omega) | with_reducible assumption | rfl))
        | (apply wr_conv; exact rfl; exact rfl; (first | exact w_i64 (by omega) | exact w_u64 (by omega) | exact w_u8 (by omega) | exact w_u16 (by omega) | exact w_i32 (by omega) | exact w_u32 (by omega) | with_reducible assumption | rfl))
        | (apply wr_not; exact rfl; exact rfl)
        | (apply wr_extract; exact rfl; exact rfl; exact rfl; with_reducible (conv => enter [6, 3]; whnf))
        | (apply wr_len_str; exact rfl; exact rfl)
        | (apply wr_len_slice; exact rfl; exact rfl)
        | (apply wr_store; exact rfl; exact rfl; exact rfl; (first | exact rfl | with_reducible assumption); (first | with_reducible assumption | exact heap_alloc_same _ _ | ((repeat (first | refine (heap_alloc_ne _ _ (by (first | omega | (simp only [World.size_alloc, World.putObj_size, ne_eq]; omega)))).trans ?_ | refine (heap_put_ne _ _ (by (first | omega | (simp only [World.size_alloc, World.putObj_size, ne_eq]; omega)))).trans ?_)); (first | with_reducible assumption | exact heap_alloc_same _ _ | exact World.putObj_heap_same (by (first | omega | (simp only [World.size_alloc, World.putObj_size, ne_eq]; omega)))))); exact rfl)
        | (apply wr_box; exact rfl; exact rfl)
        | (apply wr_alloc; exact rfl)
        | (apply wr_cat; exact rfl; exact rfl; exact rfl; (first | omega | (simp only [List.length_append]; omega)))
        | (apply wr_streqc; exact rfl; exact rfl; exact rfl; (first | exact decide_eq_true (by with_reducible assumption) | exact decide_eq_false (by with_reducible assumption) | exact decide_eq_true rfl | exact rfl))
        | (apply wr_strnec; exact rfl; exact rfl; exact rfl; (first | exact decide_eq_true (by with_reducible assumption) | exact decide_eq_false (by with_reducible assumption) | exact decide_eq_true rfl | exact rfl); with_reducible (conv => enter [6, 3]; whnf))
        | (apply wr_bits; exact rfl; (focus (simp; done)); exact rfl; exact rfl; assumption)
        | (apply wr_eqnil_t; exact rfl; exact rfl)
        | (apply wr_eqnil_f; exact rfl; exact rfl)
        | (apply wr_nenil_f; exact rfl; exact rfl)
        | (apply wr_nenil_t; exact rfl; exact rfl)
        | (apply wc_true; exact rfl)
        | (apply wc_false; exact rfl)
        | apply wc_skip
        | apply wc_block
        | (apply wc_exit; try simp only [thenE, inBlockE, bodyQ, ↓reduceIte, Nat.reduceEqDiff])
        | (apply wc_ret; try simp only [thenE, inBlockE, bodyQ])
        | (apply wr_nil; try simp only [thenE, inBlockE, bodyQ])
        | (apply wr_skip; exact rfl))
  exact leave1 (v := .bool true) rfl rfl ⟨rfl, hk1.trans (hk3.trans hk4)⟩
end Go.Proofs.YtpilcnkgpgkboaaDoor
