/- norialaw01.WireShort: it is true. -/
import Derived.Test.YtpilcnkgpgkboaaDoorPc
import Derived.Test.YtpilcnkgpgkboaaDoorVD
namespace Go.Proofs.YtpilcnkgpgkboaaDoor
open Go Go.V Go.RowKit
set_option linter.unusedVariables false
set_option linter.unusedSimpArgs false

theorem bits_or128 (b : UInt8) : bits .or .u8 (b.toNat : Int) 128 = ((b ||| 128).toNat : Int) := by
  have hb := b.toNat_lt
  rw [u8_or _ _ (by omega) (by omega) (by omega) (by omega), UInt8.toNat_or]
  rfl
set_option maxRecDepth 100000 in
set_option maxHeartbeats 8000000 in
theorem wireShort_ca {p q : Addr} {w : World} (hg : Glo w p q) (n more : Nat) (hn : n < 18446744073709551616) (hmore : more < 256) :
    Ca Tryd.prog 6 #[.int .u64 (n : Int), .int .u8 (more : Int)] w fun v w' => v = .bool true ∧ Keeps NoB w w' := by
  refine ca_of_body (args := [.int .u64 (n : Int), .int .u8 (more : Int)]) Tryd.func6 rfl (by kernel_rfl) ?_
  have hvl := varint_len n hn
  have hvp : 1 ≤ (varint n).length := by unfold varint; split <;> simp
  have hv0 : ¬ varint n = [] := varint_ne
  repeat (first
        | (apply wr_move; exact rfl; with_reducible (conv => enter [6, 3]; whnf))
        | (apply wr_assign; exact rfl; with_reducible (conv => enter [6, 3]; whnf))
        | apply wr_end
        | apply wc_seq
        | apply wc_region
        | (apply wr_fieldAddr; exact rfl; exact rfl)
        | (apply wr_load; exact rfl; exact rfl; exact rfl; (first | with_reducible assumption | exact heap_alloc_same _ _ | ((repeat (first | refine (heap_alloc_ne _ _ (by (first | omega | (simp only [World.size_alloc, World.putObj_size, ne_eq]; omega)))).trans ?_ | refine (heap_put_ne _ _ (by (first | omega | (simp only [World.size_alloc, World.putObj_size, ne_eq]; omega)))).trans ?_)); (first | with_reducible assumption | exact heap_alloc_same _ _ | exact World.putObj_heap_same (by (first | omega | (simp only [World.size_alloc, World.putObj_size, ne_eq]; omega)))))); exact rfl; conv => enter [6, 3]; whnf)
        | (apply wr_cmp; exact rfl; exact rfl; exact rfl; (first | exact cmp_lt_t (by omega) | exact cmp_lt_f (by omega) | exact cmp_eq_t (by omega) | exact cmp_eq_f (by omega) | exact cmp_ne_t (by omega) | exact cmp_ne_f (by omega) | exact cmp_le_t (by omega) | exact cmp_le_f (by omega) | exact cmp_gt_t (by omega) | exact cmp_gt_f (by omega) | exact cmp_ge_t (by omega) | exact cmp_ge_f (by omega) | exact cmp_lt _ _ | exact cmp_le _ _ | exact cmp_gt _ _ | exact cmp_ge _ _ | exact cmp_eq _ _ | exact cmp_ne _ _))
        | (apply wr_pick (t := true); exact rfl; exact rfl; with_reducible (conv => enter [6, 3]; whnf))
        | (apply wr_pick (t := false); exact rfl; exact rfl; with_reducible (conv => enter [6, 3]; whnf))
        | (apply wr_add; exact rfl; exact rfl; exact rfl; (first | exact w_i64 (by omega) | exact w_u64 (by omega) | exact w_u8 (by omega) | exact w_u16 (by omega) | exact w_i32 (by omega) | exact w_u32 (by omega) | with_reducible assumption | rfl))
        | (apply wr_sub; exact rfl; exact rfl; exact rfl; (first | exact w_i64 (by omega) | exact w_u64 (by omega) | exact w_u8 (by omega) | exact w_u16 (by omega) | exact w_i32 (by omega) | exact w_u32 (by omega) | with_reducible assumption | rfl))
        | (apply wr_mul; exact rfl; exact rfl; exact rfl; (first | exact w_i64 (by omega) | exact w_u64 (by omega) | exact w_u8 (by omega) | exact w_u16 (by omega) | exact w_i32 (by omega) | exact w_u32 (by omega) | with_reducible assumption | rfl))
        | (apply wr_conv; exact rfl; exact rfl; (first | exact w_i64 (by omega) | exact w_u64 (by omega) | exact w_u8 (by omega) | exact w_u16 (by omega) | exact w_i32 (by omega) | exact w_u32 (by omega) | with_reducible assumption | rfl))
        | (apply wr_not; exact rfl; exact rfl)
        | (apply wr_extract; exact rfl; exact rfl; exact rfl; with_reducible (conv => enter [6, 3]; whnf))
        | (apply wr_len_str; exact rfl; exact rfl)
        | (apply wr_len_slice; exact rfl; exact rfl)
        | (apply wr_store; exact rfl; exact rfl; exact rfl; (first | exact rfl | with_reducible assumption); (first | with_reducible assumption | exact heap_alloc_same _ _ | ((repeat (first | refine (heap_alloc_ne _ _ (by (first | omega | (simp only [World.size_alloc, World.putObj_size, ne_eq]; omega)))).trans ?_ | refine (heap_put_ne _ _ (by (first | omega | (simp only [World.size_alloc, World.putObj_size, ne_eq]; omega)))).trans ?_)); (first | with_reducible assumption | exact heap_alloc_same _ _ | exact World.putObj_heap_same (by (first | omega | (simp only [World.size_alloc, World.putObj_size, ne_eq]; omega)))))); exact rfl)
        | (apply wr_box; exact rfl; exact rfl)
        | (apply wr_alloc; exact rfl)
        | (apply wr_cat; exact rfl; exact rfl; exact rfl; (first | omega | (simp only [List.length_append]; omega)))
        | (apply wr_streqc; exact rfl; exact rfl; exact rfl; (first | exact decide_eq_true (by with_reducible assumption) | exact decide_eq_false (by with_reducible assumption) | exact decide_eq_true rfl | exact rfl))
        | (apply wr_strnec; exact rfl; exact rfl; exact rfl; (first | exact decide_eq_true (by with_reducible assumption) | exact decide_eq_false (by with_reducible assumption) | exact decide_eq_true rfl | exact rfl); with_reducible (conv => enter [6, 3]; whnf))
        | (apply wr_bits; exact rfl; (focus (simp; done)); exact rfl; exact rfl; assumption)
        | (apply wr_eqnil_t; exact rfl; exact rfl)
        | (apply wr_eqnil_f; exact rfl; exact rfl)
        | (apply wr_nenil_f; exact rfl; exact rfl)
        | (apply wr_nenil_t; exact rfl; exact rfl)
        | (apply wc_true; exact rfl)
        | (apply wc_false; exact rfl)
        | apply wc_skip
        | apply wc_block
        | (apply wc_exit; try simp only [thenE, inBlockE, bodyQ, ↓reduceIte, Nat.reduceEqDiff])
        | (apply wc_ret; try simp only [thenE, inBlockE, bodyQ])
        | (apply wr_nil; try simp only [thenE, inBlockE, bodyQ])
        | (apply wr_skip; exact rfl))
  refine wr_call (vs := []) rfl (examples_ca hg) rfl ?_
  rintro v w1 ⟨rfl, hk1⟩
  repeat (first
        | (apply wr_move; exact rfl; with_reducible (conv => enter [6, 3]; whnf))
        | (apply wr_assign; exact rfl; with_reducible (conv => enter [6, 3]; whnf))
        | apply wr_end
        | apply wc_seq
        | apply wc_region
        | (apply wr_fieldAddr; exact rfl; exact rfl)
        | (apply wr_load; exact rfl; exact rfl; exact rfl; (first | with_reducible assumption | exact heap_alloc_same _ _ | ((repeat (first | refine (heap_alloc_ne _ _ (by (first | omega | (simp only [World.size_alloc, World.putObj_size, ne_eq]; omega)))).trans ?_ | refine (heap_put_ne _ _ (by (first | omega | (simp only [World.size_alloc, World.putObj_size, ne_eq]; omega)))).trans ?_)); (first | with_reducible assumption | exact heap_alloc_same _ _ | exact World.putObj_heap_same (by (first | omega | (simp only [World.size_alloc, World.putObj_size, ne_eq]; omega)))))); exact rfl; conv => enter [6, 3]; whnf)
        | (apply wr_cmp; exact rfl; exact rfl; exact rfl; (first | exact cmp_lt_t (by omega) | exact cmp_lt_f (by omega) | exact cmp_eq_t (by omega) | exact cmp_eq_f (by omega) | exact cmp_ne_t (by omega) | exact cmp_ne_f (by omega) | exact cmp_le_t (by omega) | exact cmp_le_f (by omega) | exact cmp_gt_t (by omega) | exact cmp_gt_f (by omega) | exact cmp_ge_t (by omega) | exact cmp_ge_f (by omega) | exact cmp_lt _ _ | exact cmp_le _ _ | exact cmp_gt _ _ | exact cmp_ge _ _ | exact cmp_eq _ _ | exact cmp_ne _ _))
        | (apply wr_pick (t := true); exact rfl; exact rfl; with_reducible (conv => enter [6, 3]; whnf))
        | (apply wr_pick (t := false); exact rfl; exact rfl; with_reducible (conv => enter [6, 3]; whnf))
        | (apply wr_add; exact rfl; exact rfl; exact rfl; (first | exact w_i64 (by omega) | exact w_u64 (by omega) | exact w_u8 (by omega) | exact w_u16 (by omega) | exact w_i32 (by omega) | exact w_u32 (by omega) | with_reducible assumption | rfl))
        | (apply wr_sub; exact rfl; exact rfl; exact rfl; (first | exact w_i64 (by omega) | exact w_u64 (by omega) | exact w_u8 (by omega) | exact w_u16 (by omega) | exact w_i32 (by omega) | exact w_u32 (by omega) | with_reducible assumption | rfl))
        | (apply wr_mul; exact rfl; exact rfl; exact rfl; (first | exact w_i64 (by omega) | exact w_u64 (by omega) | exact w_u8 (by omega) | exact w_u16 (by omega) | exact w_i32 (by omega) | exact w_u32 (by omega) | with_reducible assumption | rfl))
        | (apply wr_conv; exact rfl; exact rfl; (first | exact w_i64 (by omega) | exact w_u64 (by omega) | exact w_u8 (by omega) | exact w_u16 (by omega) | exact w_i32 (by omega) | exact w_u32 (by omega) | with_reducible assumption | rfl))
        | (apply wr_not; exact rfl; exact rfl)
        | (apply wr_extract; exact rfl; exact rfl; exact rfl; with_reducible (conv => enter [6, 3]; whnf))
        | (apply wr_len_str; exact rfl; exact rfl)
        | (apply wr_len_slice; exact rfl; exact rfl)
        | (apply wr_store; exact rfl; exact rfl; exact rfl; (first | exact rfl | with_reducible assumption); (first | with_reducible assumption | exact heap_alloc_same _ _ | ((repeat (first | refine (heap_alloc_ne _ _ (by (first | omega | (simp only [World.size_alloc, World.putObj_size, ne_eq]; omega)))).trans ?_ | refine (heap_put_ne _ _ (by (first | omega | (simp only [World.size_alloc, World.putObj_size, ne_eq]; omega)))).trans ?_)); (first | with_reducible assumption | exact heap_alloc_same _ _ | exact World.putObj_heap_same (by (first | omega | (simp only [World.size_alloc, World.putObj_size, ne_eq]; omega)))))); exact rfl)
        | (apply wr_box; exact rfl; exact rfl)
        | (apply wr_alloc; exact rfl)
        | (apply wr_cat; exact rfl; exact rfl; exact rfl; (first | omega | (simp only [List.length_append]; omega)))
        | (apply wr_streqc; exact rfl; exact rfl; exact rfl; (first | exact decide_eq_true (by with_reducible assumption) | exact decide_eq_false (by with_reducible assumption) | exact decide_eq_true rfl | exact rfl))
        | (apply wr_strnec; exact rfl; exact rfl; exact rfl; (first | exact decide_eq_true (by with_reducible assumption) | exact decide_eq_false (by with_reducible assumption) | exact decide_eq_true rfl | exact rfl); with_reducible (conv => enter [6, 3]; whnf))
        | (apply wr_bits; exact rfl; (focus (simp; done)); exact rfl; exact rfl; assumption)
        | (apply wr_eqnil_t; exact rfl; exact rfl)
        | (apply wr_eqnil_f; exact rfl; exact rfl)
        | (apply wr_nenil_f; exact rfl; exact rfl)
        | (apply wr_nenil_t; exact rfl; exact rfl)
        | (apply wc_true; exact rfl)
        | (apply wc_false; exact rfl)
        | apply wc_skip
        | apply wc_block
        | (apply wc_exit; try simp only [thenE, inBlockE, bodyQ, ↓reduceIte, Nat.reduceEqDiff])
        | (apply wc_ret; try simp only [thenE, inBlockE, bodyQ])
        | (apply wr_nil; try simp only [thenE, inBlockE, bodyQ])
        | (apply wr_skip; exact rfl))
  refine wr_call (vs := [.int .u64 (n : Int)]) rfl (varint_ca n hn _) rfl ?_
  rintro v w2 ⟨rfl, hk2⟩
  repeat (first
        | (apply wr_move; exact rfl; with_reducible (conv => enter [6, 3]; whnf))
        | (apply wr_assign; exact rfl; with_reducible (conv => enter [6, 3]; whnf))
        | apply wr_end
        | apply wc_seq
        | apply wc_region
        | (apply wr_fieldAddr; exact rfl; exact rfl)
        | (apply wr_load; exact rfl; exact rfl; exact rfl; (first | with_reducible assumption | exact heap_alloc_same _ _ | ((repeat (first | refine (heap_alloc_ne _ _ (by (first | omega | (simp only [World.size_alloc, World.putObj_size, ne_eq]; omega)))).trans ?_ | refine (heap_put_ne _ _ (by (first | omega | (simp only [World.size_alloc, World.putObj_size, ne_eq]; omega)))).trans ?_)); (first | with_reducible assumption | exact heap_alloc_same _ _ | exact World.putObj_heap_same (by (first | omega | (simp only [World.size_alloc, World.putObj_size, ne_eq]; omega)))))); exact rfl; conv => enter [6, 3]; whnf)
        | (apply wr_cmp; exact rfl; exact rfl; exact rfl; (first | exact cmp_lt_t (by omega) | exact cmp_lt_f (by omega) | exact cmp_eq_t (by omega) | exact cmp_eq_f (by omega) | exact cmp_ne_t (by omega) | exact cmp_ne_f (by omega) | exact cmp_le_t (by omega) | exact cmp_le_f (by omega) | exact cmp_gt_t (by omega) | exact cmp_gt_f (by omega) | exact cmp_ge_t (by omega) | exact cmp_ge_f (by omega) | exact cmp_lt _ _ | exact cmp_le _ _ | exact cmp_gt _ _ | exact cmp_ge _ _ | exact cmp_eq _ _ | exact cmp_ne _ _))
        | (apply wr_pick (t := true); exact rfl; exact rfl; with_reducible (conv => enter [6, 3]; whnf))
        | (apply wr_pick (t := false); exact rfl; exact rfl; with_reducible (conv => enter [6, 3]; whnf))
        | (apply wr_add; exact rfl; exact rfl; exact rfl; (first | exact w_i64 (by omega) | exact w_u64 (by omega) | exact w_u8 (by omega) | exact w_u16 (by omega) | exact w_i32 (by omega) | exact w_u32 (by omega) | with_reducible assumption | rfl))
        | (apply wr_sub; exact rfl; exact rfl; exact rfl; (first | exact w_i64 (by omega) | exact w_u64 (by omega) | exact w_u8 (by omega) | exact w_u16 (by omega) | exact w_i32 (by omega) | exact w_u32 (by omega) | with_reducible assumption | rfl))
        | (apply wr_mul; exact rfl; exact rfl; exact rfl; (first | exact w_i64 (by omega) | exact w_u64 (by omega) | exact w_u8 (by omega) | exact w_u16 (by omega) | exact w_i32 (by omega) | exact w_u32 (by omega) | with_reducible assumption | rfl))
        | (apply wr_conv; exact rfl; exact rfl; (first | exact w_i64 (by omega) | exact w_u64 (by omega) | exact w_u8 (by omega) | exact w_u16 (by omega) | exact w_i32 (by omega) | exact w_u32 (by omega) | with_reducible assumption | rfl))
        | (apply wr_not; exact rfl; exact rfl)
        | (apply wr_extract; exact rfl; exact rfl; exact rfl; with_reducible (conv => enter [6, 3]; whnf))
        | (apply wr_len_str; exact rfl; exact rfl)
        | (apply wr_len_slice; exact rfl; exact rfl)
        | (apply wr_store; exact rfl; exact rfl; exact rfl; (first | exact rfl | with_reducible assumption); (first | with_reducible assumption | exact heap_alloc_same _ _ | ((repeat (first | refine (heap_alloc_ne _ _ (by (first | omega | (simp only [World.size_alloc, World.putObj_size, ne_eq]; omega)))).trans ?_ | refine (heap_put_ne _ _ (by (first | omega | (simp only [World.size_alloc, World.putObj_size, ne_eq]; omega)))).trans ?_)); (first | with_reducible assumption | exact heap_alloc_same _ _ | exact World.putObj_heap_same (by (first | omega | (simp only [World.size_alloc, World.putObj_size, ne_eq]; omega)))))); exact rfl)
        | (apply wr_box; exact rfl; exact rfl)
        | (apply wr_alloc; exact rfl)
        | (apply wr_cat; exact rfl; exact rfl; exact rfl; (first | omega | (simp only [List.length_append]; omega)))
        | (apply wr_streqc; exact rfl; exact rfl; exact rfl; (first | exact decide_eq_true (by with_reducible assumption) | exact decide_eq_false (by with_reducible assumption) | exact decide_eq_true rfl | exact rfl))
        | (apply wr_strnec; exact rfl; exact rfl; exact rfl; (first | exact decide_eq_true (by with_reducible assumption) | exact decide_eq_false (by with_reducible assumption) | exact decide_eq_true rfl | exact rfl); with_reducible (conv => enter [6, 3]; whnf))
        | (apply wr_bits; exact rfl; (focus (simp; done)); exact rfl; exact rfl; assumption)
        | (apply wr_eqnil_t; exact rfl; exact rfl)
        | (apply wr_eqnil_f; exact rfl; exact rfl)
        | (apply wr_nenil_f; exact rfl; exact rfl)
        | (apply wr_nenil_t; exact rfl; exact rfl)
        | (apply wc_true; exact rfl)
        | (apply wc_false; exact rfl)
        | apply wc_skip
        | apply wc_block
        | (apply wc_exit; try simp only [thenE, inBlockE, bodyQ, ↓reduceIte, Nat.reduceEqDiff])
        | (apply wc_ret; try simp only [thenE, inBlockE, bodyQ])
        | (apply wr_nil; try simp only [thenE, inBlockE, bodyQ])
        | (apply wr_skip; exact rfl))
  refine wr_str2bytes (l := varint n) rfl rfl (by unfold maxLen; omega) ?_
  intro v w3 hM3 hk3
  have hsz23 := hk3.size
  repeat (first
        | (apply wr_move; exact rfl; with_reducible (conv => enter [6, 3]; whnf))
        | (apply wr_assign; exact rfl; with_reducible (conv => enter [6, 3]; whnf))
        | apply wr_end
        | apply wc_seq
        | apply wc_region
        | (apply wr_fieldAddr; exact rfl; exact rfl)
        | (apply wr_load; exact rfl; exact rfl; exact rfl; (first | with_reducible assumption | exact heap_alloc_same _ _ | ((repeat (first | refine (heap_alloc_ne _ _ (by (first | omega | (simp only [World.size_alloc, World.putObj_size, ne_eq]; omega)))).trans ?_ | refine (heap_put_ne _ _ (by (first | omega | (simp only [World.size_alloc, World.putObj_size, ne_eq]; omega)))).trans ?_)); (first | with_reducible assumption | exact heap_alloc_same _ _ | exact World.putObj_heap_same (by (first | omega | (simp only [World.size_alloc, World.putObj_size, ne_eq]; omega)))))); exact rfl; conv => enter [6, 3]; whnf)
        | (apply wr_cmp; exact rfl; exact rfl; exact rfl; (first | exact cmp_lt_t (by omega) | exact cmp_lt_f (by omega) | exact cmp_eq_t (by omega) | exact cmp_eq_f (by omega) | exact cmp_ne_t (by omega) | exact cmp_ne_f (by omega) | exact cmp_le_t (by omega) | exact cmp_le_f (by omega) | exact cmp_gt_t (by omega) | exact cmp_gt_f (by omega) | exact cmp_ge_t (by omega) | exact cmp_ge_f (by omega) | exact cmp_lt _ _ | exact cmp_le _ _ | exact cmp_gt _ _ | exact cmp_ge _ _ | exact cmp_eq _ _ | exact cmp_ne _ _))
        | (apply wr_pick (t := true); exact rfl; exact rfl; with_reducible (conv => enter [6, 3]; whnf))
        | (apply wr_pick (t := false); exact rfl; exact rfl; with_reducible (conv => enter [6, 3]; whnf))
        | (apply wr_add; exact rfl; exact rfl; exact rfl; (first | exact w_i64 (by omega) | exact w_u64 (by omega) | exact w_u8 (by omega) | exact w_u16 (by omega) | exact w_i32 (by omega) | exact w_u32 (by omega) | with_reducible assumption | rfl))
        | (apply wr_sub; exact rfl; exact rfl; exact rfl; (first | exact w_i64 (by omega) | exact w_u64 (by omega) | exact w_u8 (by omega) | exact w_u16 (by omega) | exact w_i32 (by omega) | exact w_u32 (by omega) | with_reducible assumption | rfl))
        | (apply wr_mul; exact rfl; exact rfl; exact rfl; (first | exact w_i64 (by omega) | exact w_u64 (by omega) | exact w_u8 (by omega) | exact w_u16 (by omega) | exact w_i32 (by omega) | exact w_u32 (by omega) | with_reducible assumption | rfl))
        | (apply wr_conv; exact rfl; exact rfl; (first | exact w_i64 (by omega) | exact w_u64 (by omega) | exact w_u8 (by omega) | exact w_u16 (by omega) | exact w_i32 (by omega) | exact w_u32 (by omega) | with_reducible assumption | rfl))
        | (apply wr_not; exact rfl; exact rfl)
        | (apply wr_extract; exact rfl; exact rfl; exact rfl; with_reducible (conv => enter [6, 3]; whnf))
        | (apply wr_len_str; exact rfl; exact rfl)
        | (apply wr_len_slice; exact rfl; exact rfl)
        | (apply wr_store; exact rfl; exact rfl; exact rfl; (first | exact rfl | with_reducible assumption); (first | with_reducible assumption | exact heap_alloc_same _ _ | ((repeat (first | refine (heap_alloc_ne _ _ (by (first | omega | (simp only [World.size_alloc, World.putObj_size, ne_eq]; omega)))).trans ?_ | refine (heap_put_ne _ _ (by (first | omega | (simp only [World.size_alloc, World.putObj_size, ne_eq]; omega)))).trans ?_)); (first | with_reducible assumption | exact heap_alloc_same _ _ | exact World.putObj_heap_same (by (first | omega | (simp only [World.size_alloc, World.putObj_size, ne_eq]; omega)))))); exact rfl)
        | (apply wr_box; exact rfl; exact rfl)
        | (apply wr_alloc; exact rfl)
        | (apply wr_cat; exact rfl; exact rfl; exact rfl; (first | omega | (simp only [List.length_append]; omega)))
        | (apply wr_streqc; exact rfl; exact rfl; exact rfl; (first | exact decide_eq_true (by with_reducible assumption) | exact decide_eq_false (by with_reducible assumption) | exact decide_eq_true rfl | exact rfl))
        | (apply wr_strnec; exact rfl; exact rfl; exact rfl; (first | exact decide_eq_true (by with_reducible assumption) | exact decide_eq_false (by with_reducible assumption) | exact decide_eq_true rfl | exact rfl); with_reducible (conv => enter [6, 3]; whnf))
        | (apply wr_bits; exact rfl; (focus (simp; done)); exact rfl; exact rfl; assumption)
        | (apply wr_eqnil_t; exact rfl; exact rfl)
        | (apply wr_eqnil_f; exact rfl; exact rfl)
        | (apply wr_nenil_f; exact rfl; exact rfl)
        | (apply wr_nenil_t; exact rfl; exact rfl)
        | (apply wc_true; exact rfl)
        | (apply wc_false; exact rfl)
        | apply wc_skip
        | apply wc_block
        | (apply wc_exit; try simp only [thenE, inBlockE, bodyQ, ↓reduceIte, Nat.reduceEqDiff])
        | (apply wc_ret; try simp only [thenE, inBlockE, bodyQ])
        | (apply wr_nil; try simp only [thenE, inBlockE, bodyQ])
        | (apply wr_skip; exact rfl))
  refine wc_loopL (α := Nat × Value) (fun x => [(0, .int .u64 (n : Int)), (1, .int .u8 (more : Int)), (5, .bool true), (6, S (varint n)), (7, x.2), (8, .int .i64 (x.1 : Int))])
    (fun x ds w' => ds = [] ∧ x.1 ≤ more % 12 ∧ MRow w' w2.heap.size 5 x.2 ((varint n).length + x.1) (bytesV (vlong x.1 n)) ∧ Keeps NoB w2 w') (fun x => 12 - x.1) (0, v) ⟨rfl, Nat.zero_le _, by rw [vlong_zero n n (Nat.le_refl _)]; exact hM3, hk3⟩ ⟨rfl, rfl, rfl, rfl, rfl, rfl, trivial⟩ ?_
  rintro ⟨i, r⟩ ds f0 w4 ⟨rfl, hi, hM, hk4⟩
  dsimp only at hi hM ⊢
  have hvll := vlong_len n n i (Nat.le_refl _)
  have hM0 := hM
  obtain ⟨hl, gb, cap, cur, fr, rfl, hbg, hgb, hnc, hcm, hcs, htk, hfz⟩ := hM0
  obtain ⟨N, hN⟩ : ∃ N, N = (varint n).length + i := ⟨_, rfl⟩
  rw [← hN] at hvll hM hl hnc htk ⊢
  have hN1 : 1 ≤ N := by omega
  have hsz4 := hk4.size
  by_cases hlt : i < more % 12
  · have hcast : (N : Int) - 1 = ((N - 1 : Nat) : Int) := by omega
    obtain ⟨b, hb⟩ : ∃ b, (vlong i n)[N - 1]? = some b := ⟨(vlong i n)[N - 1]'(by omega), by rw [List.getElem?_eq_getElem]⟩
    have hcb : cur[0 + (N - 1) * 1]? = some (.int .u8 (b.toNat : Int)) := by
      have h1 : (bytesV (vlong i n))[N - 1]? = some (.int .u8 (b.toNat : Int)) := by simp [bytesV, hb]
      rw [← htk, List.getElem?_take_of_lt (by omega)] at h1
      rw [Nat.zero_add, Nat.mul_one]
      simpa using h1
    have hnext : bytesV (vlong (i + 1) n) = (bytesV (vlong i n)).set (0 + (N - 1) * 1) (.int .u8 ((b ||| 128).toNat : Int)) ++ [.int .u8 0] := by
      rw [← more1_vlong n n i (Nat.le_refl _), more1_set (vlong i n) b (by intro h; rw [h] at hvll; simp at hvll; omega) (by rw [hvll]; exact hb), hvll, Nat.zero_add, Nat.mul_one]
      simp [bytesV, List.map_set]
    repeat (first
          | (apply wr_move; exact rfl; with_reducible (conv => enter [6, 3]; whnf))
          | (apply wr_assign; exact rfl; with_reducible (conv => enter [6, 3]; whnf))
          | apply wr_end
          | apply wc_seq
          | apply wc_region
          | (apply wr_fieldAddr; exact rfl; exact rfl)
          | (apply wr_load; exact rfl; exact rfl; exact rfl; (first | with_reducible assumption | exact heap_alloc_same _ _ | ((repeat (first | refine (heap_alloc_ne _ _ (by (first | omega | (simp only [World.size_alloc, World.putObj_size, ne_eq]; omega)))).trans ?_ | refine (heap_put_ne _ _ (by (first | omega | (simp only [World.size_alloc, World.putObj_size, ne_eq]; omega)))).trans ?_)); (first | with_reducible assumption | exact heap_alloc_same _ _ | exact World.putObj_heap_same (by (first | omega | (simp only [World.size_alloc, World.putObj_size, ne_eq]; omega)))))); exact rfl; conv => enter [6, 3]; whnf)
          | (apply wr_cmp; exact rfl; exact rfl; exact rfl; (first | exact cmp_lt_t (by omega) | exact cmp_lt_f (by omega) | exact cmp_eq_t (by omega) | exact cmp_eq_f (by omega) | exact cmp_ne_t (by omega) | exact cmp_ne_f (by omega) | exact cmp_le_t (by omega) | exact cmp_le_f (by omega) | exact cmp_gt_t (by omega) | exact cmp_gt_f (by omega) | exact cmp_ge_t (by omega) | exact cmp_ge_f (by omega) | exact cmp_lt _ _ | exact cmp_le _ _ | exact cmp_gt _ _ | exact cmp_ge _ _ | exact cmp_eq _ _ | exact cmp_ne _ _))
          | (apply wr_pick (t := true); exact rfl; exact rfl; with_reducible (conv => enter [6, 3]; whnf))
          | (apply wr_pick (t := false); exact rfl; exact rfl; with_reducible (conv => enter [6, 3]; whnf))
          | (apply wr_add; exact rfl; exact rfl; exact rfl; (first | exact w_i64 (by omega) | exact w_u64 (by omega) | exact w_u8 (by omega) | exact w_u16 (by omega) | exact w_i32 (by omega) | exact w_u32 (by omega) | with_reducible assumption | rfl))
          | (apply wr_sub; exact rfl; exact rfl; exact rfl; (first | exact w_i64 (by omega) | exact w_u64 (by omega) | exact w_u8 (by omega) | exact w_u16 (by omega) | exact w_i32 (by omega) | exact w_u32 (by omega) | with_reducible assumption | rfl))
          | (apply wr_mul; exact rfl; exact rfl; exact rfl; (first | exact w_i64 (by omega) | exact w_u64 (by omega) | exact w_u8 (by omega) | exact w_u16 (by omega) | exact w_i32 (by omega) | exact w_u32 (by omega) | with_reducible assumption | rfl))
          | (apply wr_conv; exact rfl; exact rfl; (first | exact w_i64 (by omega) | exact w_u64 (by omega) | exact w_u8 (by omega) | exact w_u16 (by omega) | exact w_i32 (by omega) | exact w_u32 (by omega) | with_reducible assumption | rfl))
          | (apply wr_not; exact rfl; exact rfl)
          | (apply wr_extract; exact rfl; exact rfl; exact rfl; with_reducible (conv => enter [6, 3]; whnf))
          | (apply wr_len_str; exact rfl; exact rfl)
          | (apply wr_len_slice; exact rfl; exact rfl)
          | (apply wr_store; exact rfl; exact rfl; exact rfl; (first | exact rfl | with_reducible assumption); (first | with_reducible assumption | exact heap_alloc_same _ _ | ((repeat (first | refine (heap_alloc_ne _ _ (by (first | omega | (simp only [World.size_alloc, World.putObj_size, ne_eq]; omega)))).trans ?_ | refine (heap_put_ne _ _ (by (first | omega | (simp only [World.size_alloc, World.putObj_size, ne_eq]; omega)))).trans ?_)); (first | with_reducible assumption | exact heap_alloc_same _ _ | exact World.putObj_heap_same (by (first | omega | (simp only [World.size_alloc, World.putObj_size, ne_eq]; omega)))))); exact rfl)
          | (apply wr_box; exact rfl; exact rfl)
          | (apply wr_alloc; exact rfl)
          | (apply wr_cat; exact rfl; exact rfl; exact rfl; (first | omega | (simp only [List.length_append]; omega)))
          | (apply wr_streqc; exact rfl; exact rfl; exact rfl; (first | exact decide_eq_true (by with_reducible assumption) | exact decide_eq_false (by with_reducible assumption) | exact decide_eq_true rfl | exact rfl))
          | (apply wr_strnec; exact rfl; exact rfl; exact rfl; (first | exact decide_eq_true (by with_reducible assumption) | exact decide_eq_false (by with_reducible assumption) | exact decide_eq_true rfl | exact rfl); with_reducible (conv => enter [6, 3]; whnf))
          | (apply wr_bits; exact rfl; (focus (simp; done)); exact rfl; exact rfl; assumption)
          | (apply wr_eqnil_t; exact rfl; exact rfl)
          | (apply wr_eqnil_f; exact rfl; exact rfl)
          | (apply wr_nenil_f; exact rfl; exact rfl)
          | (apply wr_nenil_t; exact rfl; exact rfl)
          | (apply wc_true; exact rfl)
          | (apply wc_false; exact rfl)
          | apply wc_skip
          | apply wc_block
          | (apply wc_exit; try simp only [thenE, inBlockE, bodyQ, ↓reduceIte, Nat.reduceEqDiff])
          | (apply wc_ret; try simp only [thenE, inBlockE, bodyQ])
          | (apply wr_nil; try simp only [thenE, inBlockE, bodyQ])
          | (apply wr_skip; exact rfl))
    refine wr_remN (n := more) (m := 12) rfl rfl rfl (by decide) ?_
    repeat (first
          | (apply wr_move; exact rfl; with_reducible (conv => enter [6, 3]; whnf))
          | (apply wr_assign; exact rfl; with_reducible (conv => enter [6, 3]; whnf))
          | apply wr_end
          | apply wc_seq
          | apply wc_region
          | (apply wr_fieldAddr; exact rfl; exact rfl)
          | (apply wr_load; exact rfl; exact rfl; exact rfl; (first | with_reducible assumption | exact heap_alloc_same _ _ | ((repeat (first | refine (heap_alloc_ne _ _ (by (first | omega | (simp only [World.size_alloc, World.putObj_size, ne_eq]; omega)))).trans ?_ | refine (heap_put_ne _ _ (by (first | omega | (simp only [World.size_alloc, World.putObj_size, ne_eq]; omega)))).trans ?_)); (first | with_reducible assumption | exact heap_alloc_same _ _ | exact World.putObj_heap_same (by (first | omega | (simp only [World.size_alloc, World.putObj_size, ne_eq]; omega)))))); exact rfl; conv => enter [6, 3]; whnf)
          | (apply wr_cmp; exact rfl; exact rfl; exact rfl; (first | exact cmp_lt_t (by omega) | exact cmp_lt_f (by omega) | exact cmp_eq_t (by omega) | exact cmp_eq_f (by omega) | exact cmp_ne_t (by omega) | exact cmp_ne_f (by omega) | exact cmp_le_t (by omega) | exact cmp_le_f (by omega) | exact cmp_gt_t (by omega) | exact cmp_gt_f (by omega) | exact cmp_ge_t (by omega) | exact cmp_ge_f (by omega) | exact cmp_lt _ _ | exact cmp_le _ _ | exact cmp_gt _ _ | exact cmp_ge _ _ | exact cmp_eq _ _ | exact cmp_ne _ _))
          | (apply wr_pick (t := true); exact rfl; exact rfl; with_reducible (conv => enter [6, 3]; whnf))
          | (apply wr_pick (t := false); exact rfl; exact rfl; with_reducible (conv => enter [6, 3]; whnf))
          | (apply wr_add; exact rfl; exact rfl; exact rfl; (first | exact w_i64 (by omega) | exact w_u64 (by omega) | exact w_u8 (by omega) | exact w_u16 (by omega) | exact w_i32 (by omega) | exact w_u32 (by omega) | with_reducible assumption | rfl))
          | (apply wr_sub; exact rfl; exact rfl; exact rfl; (first | exact w_i64 (by omega) | exact w_u64 (by omega) | exact w_u8 (by omega) | exact w_u16 (by omega) | exact w_i32 (by omega) | exact w_u32 (by omega) | with_reducible assumption | rfl))
          | (apply wr_mul; exact rfl; exact rfl; exact rfl; (first | exact w_i64 (by omega) | exact w_u64 (by omega) | exact w_u8 (by omega) | exact w_u16 (by omega) | exact w_i32 (by omega) | exact w_u32 (by omega) | with_reducible assumption | rfl))
          | (apply wr_conv; exact rfl; exact rfl; (first | exact w_i64 (by omega) | exact w_u64 (by omega) | exact w_u8 (by omega) | exact w_u16 (by omega) | exact w_i32 (by omega) | exact w_u32 (by omega) | with_reducible assumption | rfl))
          | (apply wr_not; exact rfl; exact rfl)
          | (apply wr_extract; exact rfl; exact rfl; exact rfl; with_reducible (conv => enter [6, 3]; whnf))
          | (apply wr_len_str; exact rfl; exact rfl)
          | (apply wr_len_slice; exact rfl; exact rfl)
          | (apply wr_store; exact rfl; exact rfl; exact rfl; (first | exact rfl | with_reducible assumption); (first | with_reducible assumption | exact heap_alloc_same _ _ | ((repeat (first | refine (heap_alloc_ne _ _ (by (first | omega | (simp only [World.size_alloc, World.putObj_size, ne_eq]; omega)))).trans ?_ | refine (heap_put_ne _ _ (by (first | omega | (simp only [World.size_alloc, World.putObj_size, ne_eq]; omega)))).trans ?_)); (first | with_reducible assumption | exact heap_alloc_same _ _ | exact World.putObj_heap_same (by (first | omega | (simp only [World.size_alloc, World.putObj_size, ne_eq]; omega)))))); exact rfl)
          | (apply wr_box; exact rfl; exact rfl)
          | (apply wr_alloc; exact rfl)
          | (apply wr_cat; exact rfl; exact rfl; exact rfl; (first | omega | (simp only [List.length_append]; omega)))
          | (apply wr_streqc; exact rfl; exact rfl; exact rfl; (first | exact decide_eq_true (by with_reducible assumption) | exact decide_eq_false (by with_reducible assumption) | exact decide_eq_true rfl | exact rfl))
          | (apply wr_strnec; exact rfl; exact rfl; exact rfl; (first | exact decide_eq_true (by with_reducible assumption) | exact decide_eq_false (by with_reducible assumption) | exact decide_eq_true rfl | exact rfl); with_reducible (conv => enter [6, 3]; whnf))
          | (apply wr_bits; exact rfl; (focus (simp; done)); exact rfl; exact rfl; assumption)
          | (apply wr_eqnil_t; exact rfl; exact rfl)
          | (apply wr_eqnil_f; exact rfl; exact rfl)
          | (apply wr_nenil_f; exact rfl; exact rfl)
          | (apply wr_nenil_t; exact rfl; exact rfl)
          | (apply wc_true; exact rfl)
          | (apply wc_false; exact rfl)
          | apply wc_skip
          | apply wc_block
          | (apply wc_exit; try simp only [thenE, inBlockE, bodyQ, ↓reduceIte, Nat.reduceEqDiff])
          | (apply wc_ret; try simp only [thenE, inBlockE, bodyQ])
          | (apply wr_nil; try simp only [thenE, inBlockE, bodyQ])
          | (apply wr_skip; exact rfl))
    rw [hcast]
    refine wr_indexAddr (i := N - 1) rfl rfl rfl (by omega) ?_
    refine wr_load rfl rfl rfl hgb hcb ?_
    refine wr_bits rfl (.inr (.inl rfl)) rfl rfl (bits_or128 b) ?_
    refine wr_indexAddr (i := N - 1) rfl rfl rfl (by omega) ?_
    refine wr_storeM (base := w2.heap.size) (n := N) (cap := cap) rfl rfl rfl rfl hM (by omega) ?_
    intro w5 hM5 hk5
    have hsz5 := hk5.size
    repeat (first
          | (apply wr_move; exact rfl; with_reducible (conv => enter [6, 3]; whnf))
          | (apply wr_assign; exact rfl; with_reducible (conv => enter [6, 3]; whnf))
          | apply wr_end
          | apply wc_seq
          | apply wc_region
          | (apply wr_fieldAddr; exact rfl; exact rfl)
          | (apply wr_load; exact rfl; exact rfl; exact rfl; (first | with_reducible assumption | exact heap_alloc_same _ _ | ((repeat (first | refine (heap_alloc_ne _ _ (by (first | omega | (simp only [World.size_alloc, World.putObj_size, ne_eq]; omega)))).trans ?_ | refine (heap_put_ne _ _ (by (first | omega | (simp only [World.size_alloc, World.putObj_size, ne_eq]; omega)))).trans ?_)); (first | with_reducible assumption | exact heap_alloc_same _ _ | exact World.putObj_heap_same (by (first | omega | (simp only [World.size_alloc, World.putObj_size, ne_eq]; omega)))))); exact rfl; conv => enter [6, 3]; whnf)
          | (apply wr_cmp; exact rfl; exact rfl; exact rfl; (first | exact cmp_lt_t (by omega) | exact cmp_lt_f (by omega) | exact cmp_eq_t (by omega) | exact cmp_eq_f (by omega) | exact cmp_ne_t (by omega) | exact cmp_ne_f (by omega) | exact cmp_le_t (by omega) | exact cmp_le_f (by omega) | exact cmp_gt_t (by omega) | exact cmp_gt_f (by omega) | exact cmp_ge_t (by omega) | exact cmp_ge_f (by omega) | exact cmp_lt _ _ | exact cmp_le _ _ | exact cmp_gt _ _ | exact cmp_ge _ _ | exact cmp_eq _ _ | exact cmp_ne _ _))
          | (apply wr_pick (t := true); exact rfl; exact rfl; with_reducible (conv => enter [6, 3]; whnf))
          | (apply wr_pick (t := false); exact rfl; exact rfl; with_reducible (conv => enter [6, 3]; whnf))
          | (apply wr_add; exact rfl; exact rfl; exact rfl; (first | exact w_i64 (by omega) | exact w_u64 (by omega) | exact w_u8 (by omega) | exact w_u16 (by omega) | exact w_i32 (by omega) | exact w_u32 (by omega) | with_reducible assumption | rfl))
          | (apply wr_sub; exact rfl; exact rfl; exact rfl; (first | exact w_i64 (by omega) | exact w_u64 (by omega) | exact w_u8 (by omega) | exact w_u16 (by omega) | exact w_i32 (by omega) | exact w_u32 (by omega) | with_reducible assumption | rfl))
          | (apply wr_mul; exact rfl; exact rfl; exact rfl; (first | exact w_i64 (by omega) | exact w_u64 (by omega) | exact w_u8 (by omega) | exact w_u16 (by omega) | exact w_i32 (by omega) | exact w_u32 (by omega) | with_reducible assumption | rfl))
          | (apply wr_conv; exact rfl; exact rfl; (first | exact w_i64 (by omega) | exact w_u64 (by omega) | exact w_u8 (by omega) | exact w_u16 (by omega) | exact w_i32 (by omega) | exact w_u32 (by omega) | with_reducible assumption | rfl))
          | (apply wr_not; exact rfl; exact rfl)
          | (apply wr_extract; exact rfl; exact rfl; exact rfl; with_reducible (conv => enter [6, 3]; whnf))
          | (apply wr_len_str; exact rfl; exact rfl)
          | (apply wr_len_slice; exact rfl; exact rfl)
          | (apply wr_store; exact rfl; exact rfl; exact rfl; (first | exact rfl | with_reducible assumption); (first | with_reducible assumption | exact heap_alloc_same _ _ | ((repeat (first | refine (heap_alloc_ne _ _ (by (first | omega | (simp only [World.size_alloc, World.putObj_size, ne_eq]; omega)))).trans ?_ | refine (heap_put_ne _ _ (by (first | omega | (simp only [World.size_alloc, World.putObj_size, ne_eq]; omega)))).trans ?_)); (first | with_reducible assumption | exact heap_alloc_same _ _ | exact World.putObj_heap_same (by (first | omega | (simp only [World.size_alloc, World.putObj_size, ne_eq]; omega)))))); exact rfl)
          | (apply wr_box; exact rfl; exact rfl)
          | (apply wr_alloc; exact rfl)
          | (apply wr_cat; exact rfl; exact rfl; exact rfl; (first | omega | (simp only [List.length_append]; omega)))
          | (apply wr_streqc; exact rfl; exact rfl; exact rfl; (first | exact decide_eq_true (by with_reducible assumption) | exact decide_eq_false (by with_reducible assumption) | exact decide_eq_true rfl | exact rfl))
          | (apply wr_strnec; exact rfl; exact rfl; exact rfl; (first | exact decide_eq_true (by with_reducible assumption) | exact decide_eq_false (by with_reducible assumption) | exact decide_eq_true rfl | exact rfl); with_reducible (conv => enter [6, 3]; whnf))
          | (apply wr_bits; exact rfl; (focus (simp; done)); exact rfl; exact rfl; assumption)
          | (apply wr_eqnil_t; exact rfl; exact rfl)
          | (apply wr_eqnil_f; exact rfl; exact rfl)
          | (apply wr_nenil_f; exact rfl; exact rfl)
          | (apply wr_nenil_t; exact rfl; exact rfl)
          | (apply wc_true; exact rfl)
          | (apply wc_false; exact rfl)
          | apply wc_skip
          | apply wc_block
          | (apply wc_exit; try simp only [thenE, inBlockE, bodyQ, ↓reduceIte, Nat.reduceEqDiff])
          | (apply wc_ret; try simp only [thenE, inBlockE, bodyQ])
          | (apply wr_nil; try simp only [thenE, inBlockE, bodyQ])
          | (apply wr_skip; exact rfl))
    refine wr_buildSlice (vs := [.int .u8 0]) rfl rfl (by intro v hv; simp at hv; subst hv; rfl) rfl (by decide) (by decide) (by decide) ?_
    refine wr_append1M (base := w2.heap.size) (n := N) (u := .int .u8 0) rfl rfl (hM5.keep ((Keeps.refl NoB w5).alloc _) (fun b hb h => h)) rfl (heap_alloc_same _ _) rfl rfl (by omega) (by decide) (by simp; omega) ?_
    intro r' w6 hM6 hk6
    rw [← hnext] at hM6
    repeat (first
          | (apply wr_move; exact rfl; with_reducible (conv => enter [6, 3]; whnf))
          | (apply wr_assign; exact rfl; with_reducible (conv => enter [6, 3]; whnf))
          | apply wr_end
          | apply wc_seq
          | apply wc_region
          | (apply wr_fieldAddr; exact rfl; exact rfl)
          | (apply wr_load; exact rfl; exact rfl; exact rfl; (first | with_reducible assumption | exact heap_alloc_same _ _ | ((repeat (first | refine (heap_alloc_ne _ _ (by (first | omega | (simp only [World.size_alloc, World.putObj_size, ne_eq]; omega)))).trans ?_ | refine (heap_put_ne _ _ (by (first | omega | (simp only [World.size_alloc, World.putObj_size, ne_eq]; omega)))).trans ?_)); (first | with_reducible assumption | exact heap_alloc_same _ _ | exact World.putObj_heap_same (by (first | omega | (simp only [World.size_alloc, World.putObj_size, ne_eq]; omega)))))); exact rfl; conv => enter [6, 3]; whnf)
          | (apply wr_cmp; exact rfl; exact rfl; exact rfl; (first | exact cmp_lt_t (by omega) | exact cmp_lt_f (by omega) | exact cmp_eq_t (by omega) | exact cmp_eq_f (by omega) | exact cmp_ne_t (by omega) | exact cmp_ne_f (by omega) | exact cmp_le_t (by omega) | exact cmp_le_f (by omega) | exact cmp_gt_t (by omega) | exact cmp_gt_f (by omega) | exact cmp_ge_t (by omega) | exact cmp_ge_f (by omega) | exact cmp_lt _ _ | exact cmp_le _ _ | exact cmp_gt _ _ | exact cmp_ge _ _ | exact cmp_eq _ _ | exact cmp_ne _ _))
          | (apply wr_pick (t := true); exact rfl; exact rfl; with_reducible (conv => enter [6, 3]; whnf))
          | (apply wr_pick (t := false); exact rfl; exact rfl; with_reducible (conv => enter [6, 3]; whnf))
          | (apply wr_add; exact rfl; exact rfl; exact rfl; (first | exact w_i64 (by omega) | exact w_u64 (by omega) | exact w_u8 (by omega) | exact w_u16 (by omega) | exact w_i32 (by omega) | exact w_u32 (by omega) | with_reducible assumption | rfl))
          | (apply wr_sub; exact rfl; exact rfl; exact rfl; (first | exact w_i64 (by omega) | exact w_u64 (by omega) | exact w_u8 (by omega) | exact w_u16 (by omega) | exact w_i32 (by omega) | exact w_u32 (by omega) | with_reducible assumption | rfl))
          | (apply wr_mul; exact rfl; exact rfl; exact rfl; (first | exact w_i64 (by omega) | exact w_u64 (by omega) | exact w_u8 (by omega) | exact w_u16 (by omega) | exact w_i32 (by omega) | exact w_u32 (by omega) | with_reducible assumption | rfl))
          | (apply wr_conv; exact rfl; exact rfl; (first | exact w_i64 (by omega) | exact w_u64 (by omega) | exact w_u8 (by omega) | exact w_u16 (by omega) | exact w_i32 (by omega) | exact w_u32 (by omega) | with_reducible assumption | rfl))
          | (apply wr_not; exact rfl; exact rfl)
          | (apply wr_extract; exact rfl; exact rfl; exact rfl; with_reducible (conv => enter [6, 3]; whnf))
          | (apply wr_len_str; exact rfl; exact rfl)
          | (apply wr_len_slice; exact rfl; exact rfl)
          | (apply wr_store; exact rfl; exact rfl; exact rfl; (first | exact rfl | with_reducible assumption); (first | with_reducible assumption | exact heap_alloc_same _ _ | ((repeat (first | refine (heap_alloc_ne _ _ (by (first | omega | (simp only [World.size_alloc, World.putObj_size, ne_eq]; omega)))).trans ?_ | refine (heap_put_ne _ _ (by (first | omega | (simp only [World.size_alloc, World.putObj_size, ne_eq]; omega)))).trans ?_)); (first | with_reducible assumption | exact heap_alloc_same _ _ | exact World.putObj_heap_same (by (first | omega | (simp only [World.size_alloc, World.putObj_size, ne_eq]; omega)))))); exact rfl)
          | (apply wr_box; exact rfl; exact rfl)
          | (apply wr_alloc; exact rfl)
          | (apply wr_cat; exact rfl; exact rfl; exact rfl; (first | omega | (simp only [List.length_append]; omega)))
          | (apply wr_streqc; exact rfl; exact rfl; exact rfl; (first | exact decide_eq_true (by with_reducible assumption) | exact decide_eq_false (by with_reducible assumption) | exact decide_eq_true rfl | exact rfl))
          | (apply wr_strnec; exact rfl; exact rfl; exact rfl; (first | exact decide_eq_true (by with_reducible assumption) | exact decide_eq_false (by with_reducible assumption) | exact decide_eq_true rfl | exact rfl); with_reducible (conv => enter [6, 3]; whnf))
          | (apply wr_bits; exact rfl; (focus (simp; done)); exact rfl; exact rfl; assumption)
          | (apply wr_eqnil_t; exact rfl; exact rfl)
          | (apply wr_eqnil_f; exact rfl; exact rfl)
          | (apply wr_nenil_f; exact rfl; exact rfl)
          | (apply wr_nenil_t; exact rfl; exact rfl)
          | (apply wc_true; exact rfl)
          | (apply wc_false; exact rfl)
          | apply wc_skip
          | apply wc_block
          | (apply wc_exit; try simp only [thenE, inBlockE, bodyQ, ↓reduceIte, Nat.reduceEqDiff])
          | (apply wc_ret; try simp only [thenE, inBlockE, bodyQ])
          | (apply wr_nil; try simp only [thenE, inBlockE, bodyQ])
          | (apply wr_skip; exact rfl))
    refine ⟨(i + 1, r'), by dsimp only; omega, ⟨by trivial, hlt, ?_, ?_⟩, rfl, rfl, rfl, rfl, rfl, by simp, trivial⟩
    · show MRow _ _ _ _ ((varint n).length + (i + 1)) _
      rw [← Nat.add_assoc, ← hN]; exact hM6
    · have hk5' := hk4.trans' hk5 (fun j hj h => by omega : ∀ j, j < w2.heap.size → j = gb → NoB j)
      exact (hk5'.alloc _).trans' hk6 (fun j hj h => by simp [Value.ownBlock] at h; omega)
  · have he : i = more % 12 := by omega
    have hrd := readVarint_vlong hn i [120]
    rw [← hN] at hrd
    have hkw := hk1.trans (hk2.trans hk4)
    repeat (first
          | (apply wr_move; exact rfl; with_reducible (conv => enter [6, 3]; whnf))
          | (apply wr_assign; exact rfl; with_reducible (conv => enter [6, 3]; whnf))
          | apply wr_end
          | apply wc_seq
          | apply wc_region
          | (apply wr_fieldAddr; exact rfl; exact rfl)
          | (apply wr_load; exact rfl; exact rfl; exact rfl; (first | with_reducible assumption | exact heap_alloc_same _ _ | ((repeat (first | refine (heap_alloc_ne _ _ (by (first | omega | (simp only [World.size_alloc, World.putObj_size, ne_eq]; omega)))).trans ?_ | refine (heap_put_ne _ _ (by (first | omega | (simp only [World.size_alloc, World.putObj_size, ne_eq]; omega)))).trans ?_)); (first | with_reducible assumption | exact heap_alloc_same _ _ | exact World.putObj_heap_same (by (first | omega | (simp only [World.size_alloc, World.putObj_size, ne_eq]; omega)))))); exact rfl; conv => enter [6, 3]; whnf)
          | (apply wr_cmp; exact rfl; exact rfl; exact rfl; (first | exact cmp_lt_t (by omega) | exact cmp_lt_f (by omega) | exact cmp_eq_t (by omega) | exact cmp_eq_f (by omega) | exact cmp_ne_t (by omega) | exact cmp_ne_f (by omega) | exact cmp_le_t (by omega) | exact cmp_le_f (by omega) | exact cmp_gt_t (by omega) | exact cmp_gt_f (by omega) | exact cmp_ge_t (by omega) | exact cmp_ge_f (by omega) | exact cmp_lt _ _ | exact cmp_le _ _ | exact cmp_gt _ _ | exact cmp_ge _ _ | exact cmp_eq _ _ | exact cmp_ne _ _))
          | (apply wr_pick (t := true); exact rfl; exact rfl; with_reducible (conv => enter [6, 3]; whnf))
          | (apply wr_pick (t := false); exact rfl; exact rfl; with_reducible (conv => enter [6, 3]; whnf))
          | (apply wr_add; exact rfl; exact rfl; exact rfl; (first | exact w_i64 (by omega) | exact w_u64 (by omega) | exact w_u8 (by omega) | exact w_u16 (by omega) | exact w_i32 (by omega) | exact w_u32 (by omega) | with_reducible assumption | rfl))
          | (apply wr_sub; exact rfl; exact rfl; exact rfl; (first | exact w_i64 (by omega) | exact w_u64 (by omega) | exact w_u8 (by omega) | exact w_u16 (by omega) | exact w_i32 (by omega) | exact w_u32 (by omega) | with_reducible assumption | rfl))
          | (apply wr_mul; exact rfl; exact rfl; exact rfl; (first | exact w_i64 (by omega) | exact w_u64 (by omega) | exact w_u8 (by omega) | exact w_u16 (by omega) | exact w_i32 (by omega) | exact w_u32 (by omega) | with_reducible assumption | rfl))
          | (apply wr_conv; exact rfl; exact rfl; (first | exact w_i64 (by omega) | exact w_u64 (by omega) | exact w_u8 (by omega) | exact w_u16 (by omega) | exact w_i32 (by omega) | exact w_u32 (by omega) | with_reducible assumption | rfl))
          | (apply wr_not; exact rfl; exact rfl)
          | (apply wr_extract; exact rfl; exact rfl; exact rfl; with_reducible (conv => enter [6, 3]; whnf))
          | (apply wr_len_str; exact rfl; exact rfl)
          | (apply wr_len_slice; exact rfl; exact rfl)
          | (apply wr_store; exact rfl; exact rfl; exact rfl; (first | exact rfl | with_reducible assumption); (first | with_reducible assumption | exact heap_alloc_same _ _ | ((repeat (first | refine (heap_alloc_ne _ _ (by (first | omega | (simp only [World.size_alloc, World.putObj_size, ne_eq]; omega)))).trans ?_ | refine (heap_put_ne _ _ (by (first | omega | (simp only [World.size_alloc, World.putObj_size, ne_eq]; omega)))).trans ?_)); (first | with_reducible assumption | exact heap_alloc_same _ _ | exact World.putObj_heap_same (by (first | omega | (simp only [World.size_alloc, World.putObj_size, ne_eq]; omega)))))); exact rfl)
          | (apply wr_box; exact rfl; exact rfl)
          | (apply wr_alloc; exact rfl)
          | (apply wr_cat; exact rfl; exact rfl; exact rfl; (first | omega | (simp only [List.length_append]; omega)))
          | (apply wr_streqc; exact rfl; exact rfl; exact rfl; (first | exact decide_eq_true (by with_reducible assumption) | exact decide_eq_false (by with_reducible assumption) | exact decide_eq_true rfl | exact rfl))
          | (apply wr_strnec; exact rfl; exact rfl; exact rfl; (first | exact decide_eq_true (by with_reducible assumption) | exact decide_eq_false (by with_reducible assumption) | exact decide_eq_true rfl | exact rfl); with_reducible (conv => enter [6, 3]; whnf))
          | (apply wr_bits; exact rfl; (focus (simp; done)); exact rfl; exact rfl; assumption)
          | (apply wr_eqnil_t; exact rfl; exact rfl)
          | (apply wr_eqnil_f; exact rfl; exact rfl)
          | (apply wr_nenil_f; exact rfl; exact rfl)
          | (apply wr_nenil_t; exact rfl; exact rfl)
          | (apply wc_true; exact rfl)
          | (apply wc_false; exact rfl)
          | apply wc_skip
          | apply wc_block
          | (apply wc_exit; try simp only [thenE, inBlockE, bodyQ, ↓reduceIte, Nat.reduceEqDiff])
          | (apply wc_ret; try simp only [thenE, inBlockE, bodyQ])
          | (apply wr_nil; try simp only [thenE, inBlockE, bodyQ])
          | (apply wr_skip; exact rfl))
    refine wr_remN (n := more) (m := 12) rfl rfl rfl (by decide) ?_
    repeat (first
          | (apply wr_move; exact rfl; with_reducible (conv => enter [6, 3]; whnf))
          | (apply wr_assign; exact rfl; with_reducible (conv => enter [6, 3]; whnf))
          | apply wr_end
          | apply wc_seq
          | apply wc_region
          | (apply wr_fieldAddr; exact rfl; exact rfl)
          | (apply wr_load; exact rfl; exact rfl; exact rfl; (first | with_reducible assumption | exact heap_alloc_same _ _ | ((repeat (first | refine (heap_alloc_ne _ _ (by (first | omega | (simp only [World.size_alloc, World.putObj_size, ne_eq]; omega)))).trans ?_ | refine (heap_put_ne _ _ (by (first | omega | (simp only [World.size_alloc, World.putObj_size, ne_eq]; omega)))).trans ?_)); (first | with_reducible assumption | exact heap_alloc_same _ _ | exact World.putObj_heap_same (by (first | omega | (simp only [World.size_alloc, World.putObj_size, ne_eq]; omega)))))); exact rfl; conv => enter [6, 3]; whnf)
          | (apply wr_cmp; exact rfl; exact rfl; exact rfl; (first | exact cmp_lt_t (by omega) | exact cmp_lt_f (by omega) | exact cmp_eq_t (by omega) | exact cmp_eq_f (by omega) | exact cmp_ne_t (by omega) | exact cmp_ne_f (by omega) | exact cmp_le_t (by omega) | exact cmp_le_f (by omega) | exact cmp_gt_t (by omega) | exact cmp_gt_f (by omega) | exact cmp_ge_t (by omega) | exact cmp_ge_f (by omega) | exact cmp_lt _ _ | exact cmp_le _ _ | exact cmp_gt _ _ | exact cmp_ge _ _ | exact cmp_eq _ _ | exact cmp_ne _ _))
          | (apply wr_pick (t := true); exact rfl; exact rfl; with_reducible (conv => enter [6, 3]; whnf))
          | (apply wr_pick (t := false); exact rfl; exact rfl; with_reducible (conv => enter [6, 3]; whnf))
          | (apply wr_add; exact rfl; exact rfl; exact rfl; (first | exact w_i64 (by omega) | exact w_u64 (by omega) | exact w_u8 (by omega) | exact w_u16 (by omega) | exact w_i32 (by omega) | exact w_u32 (by omega) | with_reducible assumption | rfl))
          | (apply wr_sub; exact rfl; exact rfl; exact rfl; (first | exact w_i64 (by omega) | exact w_u64 (by omega) | exact w_u8 (by omega) | exact w_u16 (by omega) | exact w_i32 (by omega) | exact w_u32 (by omega) | with_reducible assumption | rfl))
          | (apply wr_mul; exact rfl; exact rfl; exact rfl; (first | exact w_i64 (by omega) | exact w_u64 (by omega) | exact w_u8 (by omega) | exact w_u16 (by omega) | exact w_i32 (by omega) | exact w_u32 (by omega) | with_reducible assumption | rfl))
          | (apply wr_conv; exact rfl; exact rfl; (first | exact w_i64 (by omega) | exact w_u64 (by omega) | exact w_u8 (by omega) | exact w_u16 (by omega) | exact w_i32 (by omega) | exact w_u32 (by omega) | with_reducible assumption | rfl))
          | (apply wr_not; exact rfl; exact rfl)
          | (apply wr_extract; exact rfl; exact rfl; exact rfl; with_reducible (conv => enter [6, 3]; whnf))
          | (apply wr_len_str; exact rfl; exact rfl)
          | (apply wr_len_slice; exact rfl; exact rfl)
          | (apply wr_store; exact rfl; exact rfl; exact rfl; (first | exact rfl | with_reducible assumption); (first | with_reducible assumption | exact heap_alloc_same _ _ | ((repeat (first | refine (heap_alloc_ne _ _ (by (first | omega | (simp only [World.size_alloc, World.putObj_size, ne_eq]; omega)))).trans ?_ | refine (heap_put_ne _ _ (by (first | omega | (simp only [World.size_alloc, World.putObj_size, ne_eq]; omega)))).trans ?_)); (first | with_reducible assumption | exact heap_alloc_same _ _ | exact World.putObj_heap_same (by (first | omega | (simp only [World.size_alloc, World.putObj_size, ne_eq]; omega)))))); exact rfl)
          | (apply wr_box; exact rfl; exact rfl)
          | (apply wr_alloc; exact rfl)
          | (apply wr_cat; exact rfl; exact rfl; exact rfl; (first | omega | (simp only [List.length_append]; omega)))
          | (apply wr_streqc; exact rfl; exact rfl; exact rfl; (first | exact decide_eq_true (by with_reducible assumption) | exact decide_eq_false (by with_reducible assumption) | exact decide_eq_true rfl | exact rfl))
          | (apply wr_strnec; exact rfl; exact rfl; exact rfl; (first | exact decide_eq_true (by with_reducible assumption) | exact decide_eq_false (by with_reducible assumption) | exact decide_eq_true rfl | exact rfl); with_reducible (conv => enter [6, 3]; whnf))
          | (apply wr_bits; exact rfl; (focus (simp; done)); exact rfl; exact rfl; assumption)
          | (apply wr_eqnil_t; exact rfl; exact rfl)
          | (apply wr_eqnil_f; exact rfl; exact rfl)
          | (apply wr_nenil_f; exact rfl; exact rfl)
          | (apply wr_nenil_t; exact rfl; exact rfl)
          | (apply wc_true; exact rfl)
          | (apply wc_false; exact rfl)
          | apply wc_skip
          | apply wc_block
          | (apply wc_exit; try simp only [thenE, inBlockE, bodyQ, ↓reduceIte, Nat.reduceEqDiff])
          | (apply wc_ret; try simp only [thenE, inBlockE, bodyQ])
          | (apply wr_nil; try simp only [thenE, inBlockE, bodyQ])
          | (apply wr_skip; exact rfl))
    refine wr_bytes2str (l := vlong i n) rfl rfl hM.slR ?_
    refine wr_cat (b := [120]) rfl rfl rfl (by rw [hvll]; simp; omega) ?_
    refine wr_call (vs := [S (vlong i n ++ [120])]) rfl (readVarint_ca (vlong i n ++ [120]) _) rfl ?_
    rintro v w5 ⟨rfl, rfl⟩
    obtain ⟨x0, sz, ok, hrv, hcase⟩ : ∃ (x0 sz : Nat) (ok : Bool), rvV (readVarint (vlong i n ++ [120])) = .tuple #[.int .u64 (x0 : Int), .int .i64 (sz : Int), .bool ok] ∧ ((N ≤ 10 ∧ ok = true ∧ x0 = n ∧ sz = N) ∨ (10 < N ∧ ok = false ∧ x0 = 0 ∧ sz = 0)) := by
      rw [hrd]
      by_cases h10 : N ≤ 10
      · rw [if_pos h10]; exact ⟨n, N, true, rfl, .inl ⟨h10, rfl, rfl, rfl⟩⟩
      · rw [if_neg h10]; exact ⟨0, 0, false, rfl, .inr ⟨by omega, rfl, rfl, rfl⟩⟩
    rw [hrv]
    repeat (first
          | (apply wr_move; exact rfl; with_reducible (conv => enter [6, 3]; whnf))
          | (apply wr_assign; exact rfl; with_reducible (conv => enter [6, 3]; whnf))
          | apply wr_end
          | apply wc_seq
          | apply wc_region
          | (apply wr_fieldAddr; exact rfl; exact rfl)
          | (apply wr_load; exact rfl; exact rfl; exact rfl; (first | with_reducible assumption | exact heap_alloc_same _ _ | ((repeat (first | refine (heap_alloc_ne _ _ (by (first | omega | (simp only [World.size_alloc, World.putObj_size, ne_eq]; omega)))).trans ?_ | refine (heap_put_ne _ _ (by (first | omega | (simp only [World.size_alloc, World.putObj_size, ne_eq]; omega)))).trans ?_)); (first | with_reducible assumption | exact heap_alloc_same _ _ | exact World.putObj_heap_same (by (first | omega | (simp only [World.size_alloc, World.putObj_size, ne_eq]; omega)))))); exact rfl; conv => enter [6, 3]; whnf)
          | (apply wr_cmp; exact rfl; exact rfl; exact rfl; (first | exact cmp_lt_t (by omega) | exact cmp_lt_f (by omega) | exact cmp_eq_t (by omega) | exact cmp_eq_f (by omega) | exact cmp_ne_t (by omega) | exact cmp_ne_f (by omega) | exact cmp_le_t (by omega) | exact cmp_le_f (by omega) | exact cmp_gt_t (by omega) | exact cmp_gt_f (by omega) | exact cmp_ge_t (by omega) | exact cmp_ge_f (by omega) | exact cmp_lt _ _ | exact cmp_le _ _ | exact cmp_gt _ _ | exact cmp_ge _ _ | exact cmp_eq _ _ | exact cmp_ne _ _))
          | (apply wr_pick (t := true); exact rfl; exact rfl; with_reducible (conv => enter [6, 3]; whnf))
          | (apply wr_pick (t := false); exact rfl; exact rfl; with_reducible (conv => enter [6, 3]; whnf))
          | (apply wr_add; exact rfl; exact rfl; exact rfl; (first | exact w_i64 (by omega) | exact w_u64 (by omega) | exact w_u8 (by omega) | exact w_u16 (by omega) | exact w_i32 (by omega) | exact w_u32 (by omega) | with_reducible assumption | rfl))
          | (apply wr_sub; exact rfl; exact rfl; exact rfl; (first | exact w_i64 (by omega) | exact w_u64 (by omega) | exact w_u8 (by omega) | exact w_u16 (by omega) | exact w_i32 (by omega) | exact w_u32 (by omega) | with_reducible assumption | rfl))
          | (apply wr_mul; exact rfl; exact rfl; exact rfl; (first | exact w_i64 (by omega) | exact w_u64 (by omega) | exact w_u8 (by omega) | exact w_u16 (by omega) | exact w_i32 (by omega) | exact w_u32 (by omega) | with_reducible assumption | rfl))
          | (apply wr_conv; exact rfl; exact rfl; (first | exact w_i64 (by omega) | exact w_u64 (by omega) | exact w_u8 (by omega) | exact w_u16 (by omega) | exact w_i32 (by omega) | exact w_u32 (by omega) | with_reducible assumption | rfl))
          | (apply wr_not; exact rfl; exact rfl)
          | (apply wr_extract; exact rfl; exact rfl; exact rfl; with_reducible (conv => enter [6, 3]; whnf))
          | (apply wr_len_str; exact rfl; exact rfl)
          | (apply wr_len_slice; exact rfl; exact rfl)
          | (apply wr_store; exact rfl; exact rfl; exact rfl; (first | exact rfl | with_reducible assumption); (first | with_reducible assumption | exact heap_alloc_same _ _ | ((repeat (first | refine (heap_alloc_ne _ _ (by (first | omega | (simp only [World.size_alloc, World.putObj_size, ne_eq]; omega)))).trans ?_ | refine (heap_put_ne _ _ (by (first | omega | (simp only [World.size_alloc, World.putObj_size, ne_eq]; omega)))).trans ?_)); (first | with_reducible assumption | exact heap_alloc_same _ _ | exact World.putObj_heap_same (by (first | omega | (simp only [World.size_alloc, World.putObj_size, ne_eq]; omega)))))); exact rfl)
          | (apply wr_box; exact rfl; exact rfl)
          | (apply wr_alloc; exact rfl)
          | (apply wr_cat; exact rfl; exact rfl; exact rfl; (first | omega | (simp only [List.length_append]; omega)))
          | (apply wr_streqc; exact rfl; exact rfl; exact rfl; (first | exact decide_eq_true (by with_reducible assumption) | exact decide_eq_false (by with_reducible assumption) | exact decide_eq_true rfl | exact rfl))
          | (apply wr_strnec; exact rfl; exact rfl; exact rfl; (first | exact decide_eq_true (by with_reducible assumption) | exact decide_eq_false (by with_reducible assumption) | exact decide_eq_true rfl | exact rfl); with_reducible (conv => enter [6, 3]; whnf))
          | (apply wr_bits; exact rfl; (focus (simp; done)); exact rfl; exact rfl; assumption)
          | (apply wr_eqnil_t; exact rfl; exact rfl)
          | (apply wr_eqnil_f; exact rfl; exact rfl)
          | (apply wr_nenil_f; exact rfl; exact rfl)
          | (apply wr_nenil_t; exact rfl; exact rfl)
          | (apply wc_true; exact rfl)
          | (apply wc_false; exact rfl)
          | apply wc_skip
          | apply wc_block
          | (apply wc_exit; try simp only [thenE, inBlockE, bodyQ, ↓reduceIte, Nat.reduceEqDiff])
          | (apply wc_ret; try simp only [thenE, inBlockE, bodyQ])
          | (apply wr_nil; try simp only [thenE, inBlockE, bodyQ])
          | (apply wr_skip; exact rfl))
    refine wc_loopL (α := Nat × Nat) (fun x => [(0, .int .u64 (n : Int)), (5, .bool true), (6, S (varint n)), (7, .slice (some ⟨gb, 0, none⟩) N cap), (9, .int .u64 (x0 : Int)), (10, .int .i64 (sz : Int)), (11, .bool ok), (12, .int .i64 (x.2 : Int)), (13, .int .u64 (x.1 : Int))])
      (fun x ds w' => ds = [] ∧ w' = w5 ∧ x.1 < 18446744073709551616 ∧ 1 ≤ x.2 ∧ x.2 + (varint x.1).length = (varint n).length + 1) (fun x => x.1) (n, 1) ⟨rfl, rfl, hn, Nat.le_refl _, by dsimp only; omega⟩ ⟨rfl, rfl, rfl, rfl, rfl, rfl, rfl, rfl, rfl, trivial⟩ ?_
    rintro ⟨k, want⟩ ds f1 w6 ⟨rfl, rfl, hk, hw1, hwl⟩
    dsimp only at hk hw1 hwl ⊢
    by_cases hk128 : k < 128
    · have hwant : want = (varint n).length := by rw [varint_lt hk128] at hwl; simp at hwl; omega
      rcases hcase with ⟨h10, rfl, rfl, rfl⟩ | ⟨h10, rfl, rfl, rfl⟩
      all_goals
        repeat (first
              | (apply wr_move; exact rfl; with_reducible (conv => enter [6, 3]; whnf))
              | (apply wr_assign; exact rfl; with_reducible (conv => enter [6, 3]; whnf))
              | apply wr_end
              | apply wc_seq
              | apply wc_region
              | (apply wr_fieldAddr; exact rfl; exact rfl)
              | (apply wr_load; exact rfl; exact rfl; exact rfl; (first | with_reducible assumption | exact heap_alloc_same _ _ | ((repeat (first | refine (heap_alloc_ne _ _ (by (first | omega | (simp only [World.size_alloc, World.putObj_size, ne_eq]; omega)))).trans ?_ | refine (heap_put_ne _ _ (by (first | omega | (simp only [World.size_alloc, World.putObj_size, ne_eq]; omega)))).trans ?_)); (first | with_reducible assumption | exact heap_alloc_same _ _ | exact World.putObj_heap_same (by (first | omega | (simp only [World.size_alloc, World.putObj_size, ne_eq]; omega)))))); exact rfl; conv => enter [6, 3]; whnf)
              | (apply wr_cmp; exact rfl; exact rfl; exact rfl; (first | exact cmp_lt_t (by omega) | exact cmp_lt_f (by omega) | exact cmp_eq_t (by omega) | exact cmp_eq_f (by omega) | exact cmp_ne_t (by omega) | exact cmp_ne_f (by omega) | exact cmp_le_t (by omega) | exact cmp_le_f (by omega) | exact cmp_gt_t (by omega) | exact cmp_gt_f (by omega) | exact cmp_ge_t (by omega) | exact cmp_ge_f (by omega) | exact cmp_lt _ _ | exact cmp_le _ _ | exact cmp_gt _ _ | exact cmp_ge _ _ | exact cmp_eq _ _ | exact cmp_ne _ _))
              | (apply wr_pick (t := true); exact rfl; exact rfl; with_reducible (conv => enter [6, 3]; whnf))
              | (apply wr_pick (t := false); exact rfl; exact rfl; with_reducible (conv => enter [6, 3]; whnf))
              | (apply wr_add; exact rfl; exact rfl; exact rfl; (first | exact w_i64 (by omega) | exact w_u64 (by omega) | exact w_u8 (by omega) | exact w_u16 (by omega) | exact w_i32 (by omega) | exact w_u32 (by omega) | with_reducible assumption | rfl))
              | (apply wr_sub; exact rfl; exact rfl; exact rfl; (first | exact w_i64 (by omega) | exact w_u64 (by omega) | exact w_u8 (by omega) | exact w_u16 (by omega) | exact w_i32 (by omega) | exact w_u32 (by omega) | with_reducible assumption | rfl))
              | (apply wr_mul; exact rfl; exact rfl; exact rfl; (first | exact w_i64 (by omega) | exact w_u64 (by omega) | exact w_u8 (by omega) | exact w_u16 (by omega) | exact w_i32 (by omega) | exact w_u32 (by omega) | with_reducible assumption | rfl))
              | (apply wr_conv; exact rfl; exact rfl; (first | exact w_i64 (by omega) | exact w_u64 (by omega) | exact w_u8 (by omega) | exact w_u16 (by omega) | exact w_i32 (by omega) | exact w_u32 (by omega) | with_reducible assumption | rfl))
              | (apply wr_not; exact rfl; exact rfl)
              | (apply wr_extract; exact rfl; exact rfl; exact rfl; with_reducible (conv => enter [6, 3]; whnf))
              | (apply wr_len_str; exact rfl; exact rfl)
              | (apply wr_len_slice; exact rfl; exact rfl)
              | (apply wr_store; exact rfl; exact rfl; exact rfl; (first | exact rfl | with_reducible assumption); (first | with_reducible assumption | exact heap_alloc_same _ _ | ((repeat (first | refine (heap_alloc_ne _ _ (by (first | omega | (simp only [World.size_alloc, World.putObj_size, ne_eq]; omega)))).trans ?_ | refine (heap_put_ne _ _ (by (first | omega | (simp only [World.size_alloc, World.putObj_size, ne_eq]; omega)))).trans ?_)); (first | with_reducible assumption | exact heap_alloc_same _ _ | exact World.putObj_heap_same (by (first | omega | (simp only [World.size_alloc, World.putObj_size, ne_eq]; omega)))))); exact rfl)
              | (apply wr_box; exact rfl; exact rfl)
              | (apply wr_alloc; exact rfl)
              | (apply wr_cat; exact rfl; exact rfl; exact rfl; (first | omega | (simp only [List.length_append]; omega)))
              | (apply wr_streqc; exact rfl; exact rfl; exact rfl; (first | exact decide_eq_true (by with_reducible assumption) | exact decide_eq_false (by with_reducible assumption) | exact decide_eq_true rfl | exact rfl))
              | (apply wr_strnec; exact rfl; exact rfl; exact rfl; (first | exact decide_eq_true (by with_reducible assumption) | exact decide_eq_false (by with_reducible assumption) | exact decide_eq_true rfl | exact rfl); with_reducible (conv => enter [6, 3]; whnf))
              | (apply wr_bits; exact rfl; (focus (simp; done)); exact rfl; exact rfl; assumption)
              | (apply wr_eqnil_t; exact rfl; exact rfl)
              | (apply wr_eqnil_f; exact rfl; exact rfl)
              | (apply wr_nenil_f; exact rfl; exact rfl)
              | (apply wr_nenil_t; exact rfl; exact rfl)
              | (apply wc_true; exact rfl)
              | (apply wc_false; exact rfl)
              | apply wc_skip
              | apply wc_block
              | (apply wc_exit; try simp only [thenE, inBlockE, bodyQ, ↓reduceIte, Nat.reduceEqDiff])
              | (apply wc_ret; try simp only [thenE, inBlockE, bodyQ])
              | (apply wr_nil; try simp only [thenE, inBlockE, bodyQ])
              | (apply wr_skip; exact rfl))
        exact leave1 (v := .bool true) rfl rfl ⟨rfl, hkw⟩
    · rw [varint_ge (by omega)] at hwl
      rw [List.length_cons] at hwl
      have hpk : 1 ≤ (varint (k / 128)).length := by unfold varint; split <;> simp
      repeat (first
            | (apply wr_move; exact rfl; with_reducible (conv => enter [6, 3]; whnf))
            | (apply wr_assign; exact rfl; with_reducible (conv => enter [6, 3]; whnf))
            | apply wr_end
            | apply wc_seq
            | apply wc_region
            | (apply wr_fieldAddr; exact rfl; exact rfl)
            | (apply wr_load; exact rfl; exact rfl; exact rfl; (first | with_reducible assumption | exact heap_alloc_same _ _ | ((repeat (first | refine (heap_alloc_ne _ _ (by (first | omega | (simp only [World.size_alloc, World.putObj_size, ne_eq]; omega)))).trans ?_ | refine (heap_put_ne _ _ (by (first | omega | (simp only [World.size_alloc, World.putObj_size, ne_eq]; omega)))).trans ?_)); (first | with_reducible assumption | exact heap_alloc_same _ _ | exact World.putObj_heap_same (by (first | omega | (simp only [World.size_alloc, World.putObj_size, ne_eq]; omega)))))); exact rfl; conv => enter [6, 3]; whnf)
            | (apply wr_cmp; exact rfl; exact rfl; exact rfl; (first | exact cmp_lt_t (by omega) | exact cmp_lt_f (by omega) | exact cmp_eq_t (by omega) | exact cmp_eq_f (by omega) | exact cmp_ne_t (by omega) | exact cmp_ne_f (by omega) | exact cmp_le_t (by omega) | exact cmp_le_f (by omega) | exact cmp_gt_t (by omega) | exact cmp_gt_f (by omega) | exact cmp_ge_t (by omega) | exact cmp_ge_f (by omega) | exact cmp_lt _ _ | exact cmp_le _ _ | exact cmp_gt _ _ | exact cmp_ge _ _ | exact cmp_eq _ _ | exact cmp_ne _ _))
            | (apply wr_pick (t := true); exact rfl; exact rfl; with_reducible (conv => enter [6, 3]; whnf))
            | (apply wr_pick (t := false); exact rfl; exact rfl; with_reducible (conv => enter [6, 3]; whnf))
            | (apply wr_add; exact rfl; exact rfl; exact rfl; (first | exact w_i64 (by omega) | exact w_u64 (by omega) | exact w_u8 (by omega) | exact w_u16 (by omega) | exact w_i32 (by omega) | exact w_u32 (by omega) | with_reducible assumption | rfl))
            | (apply wr_sub; exact rfl; exact rfl; exact rfl; (first | exact w_i64 (by omega) | exact w_u64 (by omega) | exact w_u8 (by omega) | exact w_u16 (by omega) | exact w_i32 (by omega) | exact w_u32 (by omega) | with_reducible assumption | rfl))
            | (apply wr_mul; exact rfl; exact rfl; exact rfl; (first | exact w_i64 (by omega) | exact w_u64 (by omega) | exact w_u8 (by omega) | exact w_u16 (by omega) | exact w_i32 (by omega) | exact w_u32 (by omega) | with_reducible assumption | rfl))
            | (apply wr_conv; exact rfl; exact rfl; (first | exact w_i64 (by omega) | exact w_u64 (by omega) | exact w_u8 (by omega) | exact w_u16 (by omega) | exact w_i32 (by omega) | exact w_u32 (by omega) | with_reducible assumption | rfl))
            | (apply wr_not; exact rfl; exact rfl)
            | (apply wr_extract; exact rfl; exact rfl; exact rfl; with_reducible (conv => enter [6, 3]; whnf))
            | (apply wr_len_str; exact rfl; exact rfl)
            | (apply wr_len_slice; exact rfl; exact rfl)
            | (apply wr_store; exact rfl; exact rfl; exact rfl; (first | exact rfl | with_reducible assumption); (first | with_reducible assumption | exact heap_alloc_same _ _ | ((repeat (first | refine (heap_alloc_ne _ _ (by (first | omega | (simp only [World.size_alloc, World.putObj_size, ne_eq]; omega)))).trans ?_ | refine (heap_put_ne _ _ (by (first | omega | (simp only [World.size_alloc, World.putObj_size, ne_eq]; omega)))).trans ?_)); (first | with_reducible assumption | exact heap_alloc_same _ _ | exact World.putObj_heap_same (by (first | omega | (simp only [World.size_alloc, World.putObj_size, ne_eq]; omega)))))); exact rfl)
            | (apply wr_box; exact rfl; exact rfl)
            | (apply wr_alloc; exact rfl)
            | (apply wr_cat; exact rfl; exact rfl; exact rfl; (first | omega | (simp only [List.length_append]; omega)))
            | (apply wr_streqc; exact rfl; exact rfl; exact rfl; (first | exact decide_eq_true (by with_reducible assumption) | exact decide_eq_false (by with_reducible assumption) | exact decide_eq_true rfl | exact rfl))
            | (apply wr_strnec; exact rfl; exact rfl; exact rfl; (first | exact decide_eq_true (by with_reducible assumption) | exact decide_eq_false (by with_reducible assumption) | exact decide_eq_true rfl | exact rfl); with_reducible (conv => enter [6, 3]; whnf))
            | (apply wr_bits; exact rfl; (focus (simp; done)); exact rfl; exact rfl; assumption)
            | (apply wr_eqnil_t; exact rfl; exact rfl)
            | (apply wr_eqnil_f; exact rfl; exact rfl)
            | (apply wr_nenil_f; exact rfl; exact rfl)
            | (apply wr_nenil_t; exact rfl; exact rfl)
            | (apply wc_true; exact rfl)
            | (apply wc_false; exact rfl)
            | apply wc_skip
            | apply wc_block
            | (apply wc_exit; try simp only [thenE, inBlockE, bodyQ, ↓reduceIte, Nat.reduceEqDiff])
            | (apply wc_ret; try simp only [thenE, inBlockE, bodyQ])
            | (apply wr_nil; try simp only [thenE, inBlockE, bodyQ])
            | (apply wr_skip; exact rfl))
      refine wr_quoN (n := k) (m := 128) rfl rfl rfl (by decide) (w_u64 (by omega)) ?_
      repeat (first
            | (apply wr_move; exact rfl; with_reducible (conv => enter [6, 3]; whnf))
            | (apply wr_assign; exact rfl; with_reducible (conv => enter [6, 3]; whnf))
            | apply wr_end
            | apply wc_seq
            | apply wc_region
            | (apply wr_fieldAddr; exact rfl; exact rfl)
            | (apply wr_load; exact rfl; exact rfl; exact rfl; (first | with_reducible assumption | exact heap_alloc_same _ _ | ((repeat (first | refine (heap_alloc_ne _ _ (by (first | omega | (simp only [World.size_alloc, World.putObj_size, ne_eq]; omega)))).trans ?_ | refine (heap_put_ne _ _ (by (first | omega | (simp only [World.size_alloc, World.putObj_size, ne_eq]; omega)))).trans ?_)); (first | with_reducible assumption | exact heap_alloc_same _ _ | exact World.putObj_heap_same (by (first | omega | (simp only [World.size_alloc, World.putObj_size, ne_eq]; omega)))))); exact rfl; conv => enter [6, 3]; whnf)
            | (apply wr_cmp; exact rfl; exact rfl; exact rfl; (first | exact cmp_lt_t (by omega) | exact cmp_lt_f (by omega) | exact cmp_eq_t (by omega) | exact cmp_eq_f (by omega) | exact cmp_ne_t (by omega) | exact cmp_ne_f (by omega) | exact cmp_le_t (by omega) | exact cmp_le_f (by omega) | exact cmp_gt_t (by omega) | exact cmp_gt_f (by omega) | exact cmp_ge_t (by omega) | exact cmp_ge_f (by omega) | exact cmp_lt _ _ | exact cmp_le _ _ | exact cmp_gt _ _ | exact cmp_ge _ _ | exact cmp_eq _ _ | exact cmp_ne _ _))
            | (apply wr_pick (t := true); exact rfl; exact rfl; with_reducible (conv => enter [6, 3]; whnf))
            | (apply wr_pick (t := false); exact rfl; exact rfl; with_reducible (conv => enter [6, 3]; whnf))
            | (apply wr_add; exact rfl; exact rfl; exact rfl; (first | exact w_i64 (by omega) | exact w_u64 (by omega) | exact w_u8 (by omega) | exact w_u16 (by omega) | exact w_i32 (by omega) | exact w_u32 (by omega) | with_reducible assumption | rfl))
            | (apply wr_sub; exact rfl; exact rfl; exact rfl; (first | exact w_i64 (by omega) | exact w_u64 (by omega) | exact w_u8 (by omega) | exact w_u16 (by omega) | exact w_i32 (by omega) | exact w_u32 (by omega) | with_reducible assumption | rfl))
            | (apply wr_mul; exact rfl; exact rfl; exact rfl; (first | exact w_i64 (by omega) | exact w_u64 (by omega) | exact w_u8 (by omega) | exact w_u16 (by omega) | exact w_i32 (by omega) | exact w_u32 (by omega) | with_reducible assumption | rfl))
            | (apply wr_conv; exact rfl; exact rfl; (first | exact w_i64 (by omega) | exact w_u64 (by omega) | exact w_u8 (by omega) | exact w_u16 (by omega) | exact w_i32 (by omega) | exact w_u32 (by omega) | with_reducible assumption | rfl))
            | (apply wr_not; exact rfl; exact rfl)
            | (apply wr_extract; exact rfl; exact rfl; exact rfl; with_reducible (conv => enter [6, 3]; whnf))
            | (apply wr_len_str; exact rfl; exact rfl)
            | (apply wr_len_slice; exact rfl; exact rfl)
            | (apply wr_store; exact rfl; exact rfl; exact rfl; (first | exact rfl | with_reducible assumption); (first | with_reducible assumption | exact heap_alloc_same _ _ | ((repeat (first | refine (heap_alloc_ne _ _ (by (first | omega | (simp only [World.size_alloc, World.putObj_size, ne_eq]; omega)))).trans ?_ | refine (heap_put_ne _ _ (by (first | omega | (simp only [World.size_alloc, World.putObj_size, ne_eq]; omega)))).trans ?_)); (first | with_reducible assumption | exact heap_alloc_same _ _ | exact World.putObj_heap_same (by (first | omega | (simp only [World.size_alloc, World.putObj_size, ne_eq]; omega)))))); exact rfl)
            | (apply wr_box; exact rfl; exact rfl)
            | (apply wr_alloc; exact rfl)
            | (apply wr_cat; exact rfl; exact rfl; exact rfl; (first | omega | (simp only [List.length_append]; omega)))
            | (apply wr_streqc; exact rfl; exact rfl; exact rfl; (first | exact decide_eq_true (by with_reducible assumption) | exact decide_eq_false (by with_reducible assumption) | exact decide_eq_true rfl | exact rfl))
            | (apply wr_strnec; exact rfl; exact rfl; exact rfl; (first | exact decide_eq_true (by with_reducible assumption) | exact decide_eq_false (by with_reducible assumption) | exact decide_eq_true rfl | exact rfl); with_reducible (conv => enter [6, 3]; whnf))
            | (apply wr_bits; exact rfl; (focus (simp; done)); exact rfl; exact rfl; assumption)
            | (apply wr_eqnil_t; exact rfl; exact rfl)
            | (apply wr_eqnil_f; exact rfl; exact rfl)
            | (apply wr_nenil_f; exact rfl; exact rfl)
            | (apply wr_nenil_t; exact rfl; exact rfl)
            | (apply wc_true; exact rfl)
            | (apply wc_false; exact rfl)
            | apply wc_skip
            | apply wc_block
            | (apply wc_exit; try simp only [thenE, inBlockE, bodyQ, ↓reduceIte, Nat.reduceEqDiff])
            | (apply wc_ret; try simp only [thenE, inBlockE, bodyQ])
            | (apply wr_nil; try simp only [thenE, inBlockE, bodyQ])
            | (apply wr_skip; exact rfl))
      exact ⟨(k / 128, want + 1), by dsimp only; omega, ⟨by trivial, by trivial, by dsimp only; omega, by dsimp only; omega, by dsimp only; omega⟩, rfl, rfl, rfl, rfl, rfl, rfl, rfl, by simp, rfl, trivial⟩
end Go.Proofs.YtpilcnkgpgkboaaDoor
