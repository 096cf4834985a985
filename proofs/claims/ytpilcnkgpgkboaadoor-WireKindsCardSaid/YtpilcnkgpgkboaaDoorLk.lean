/- norialaw01.WireKinds: it is true. -/
import Derived.Test.YtpilcnkgpgkboaaDoorLj
namespace Go.Proofs.YtpilcnkgpgkboaaDoor
open Go Go.V Go.RowKit
set_option linter.unusedVariables false
set_option linter.unusedSimpArgs false

theorem take_tag {x : Nat} (hx : x < 128) (h8 : 8 ≤ x) (b : List UInt8) : takeF (UInt8.ofNat x :: b) =
    if x % 8 = 0 then (match readVarint b with
      | none => .short
      | some (v, m) => .ok ⟨(x / 8 : Nat), 0, v, []⟩ (b.drop m)) else
    if x % 8 = 2 then (match readVarint b with
      | none => .short
      | some (v, m) => if (b.drop m).length < v then .short else .ok ⟨(x / 8 : Nat), 2, 0, (b.drop m).take v⟩ ((b.drop m).drop v)) else
    if x % 8 = 1 then (if b.length < 8 then .short else .ok ⟨(x / 8 : Nat), 1, 0, b.take 8⟩ (b.drop 8)) else
    if x % 8 = 5 then (if b.length < 4 then .short else .ok ⟨(x / 8 : Nat), 5, 0, b.take 4⟩ (b.drop 4)) else .wrong := by
  have hn : (UInt8.ofNat x).toNat = x := by simp; omega
  have hr : readVarint (UInt8.ofNat x :: b) = some (x, 1) := by
    show rv 0 0 _ = _
    rw [rv_cons (by decide), hn, if_neg (by omega), if_pos hx]; simp
  unfold takeF
  rw [hr]
  dsimp only
  rw [if_neg (by omega), List.drop_succ_cons, List.drop_zero]
  rfl
/-- What a kind gives. -/
theorem parse_kind {x : Nat} (hx : x < 128) (h8 : 8 ≤ x) (b : List UInt8) :
    (x % 8 = 1 ∧ ((b.length < 8 ∧ parseF (UInt8.ofNat x :: b) = none) ∨ (8 < b.length ∧ parseF (UInt8.ofNat x :: b) = none) ∨ (8 ≤ b.length ∧ ∃ l, parseF (UInt8.ofNat x :: b) = some (⟨(x / 8 : Nat), 1, 0, b.take 8⟩ :: l)))) ∨
    (x % 8 = 5 ∧ ((b.length < 4 ∧ parseF (UInt8.ofNat x :: b) = none) ∨ (4 < b.length ∧ parseF (UInt8.ofNat x :: b) = none) ∨ (4 ≤ b.length ∧ ∃ l, parseF (UInt8.ofNat x :: b) = some (⟨(x / 8 : Nat), 5, 0, b.take 4⟩ :: l)))) ∨
    ((x % 8 = 0 ∨ x % 8 = 2) ∧ (parseF (UInt8.ofNat x :: b) = none ∨ (b ≠ [] ∧ ∃ v t l, parseF (UInt8.ofNat x :: b) = some (⟨(x / 8 : Nat), (x % 8 : Nat), v, t⟩ :: l)))) ∨
    (x % 8 ≠ 0 ∧ x % 8 ≠ 1 ∧ x % 8 ≠ 2 ∧ x % 8 ≠ 5 ∧ parseF (UInt8.ofNat x :: b) = none) := by
  have hT := take_tag hx h8 b
  have hne : UInt8.ofNat x :: b ≠ [] := by simp
  by_cases h0 : x % 8 = 0
  · rw [if_pos h0] at hT
    refine .inr (.inr (.inl ⟨.inl h0, ?_⟩))
    cases hr : readVarint b with
    | none => rw [hr] at hT; exact .inl (parseF_no hne (.inl hT))
    | some vm =>
      obtain ⟨v, m⟩ := vm
      rw [hr] at hT
      have hb : b ≠ [] := by rintro rfl; simp [rv] at hr
      rw [parseF_ok hne hT, h0]
      cases parseF (b.drop m) with
      | none => exact .inl rfl
      | some l => exact .inr ⟨hb, _, _, _, rfl⟩
  · rw [if_neg h0] at hT
    by_cases h2 : x % 8 = 2
    · rw [if_pos h2] at hT
      refine .inr (.inr (.inl ⟨.inr h2, ?_⟩))
      cases hr : readVarint b with
      | none => rw [hr] at hT; exact .inl (parseF_no hne (.inl hT))
      | some vm =>
        obtain ⟨v, m⟩ := vm
        rw [hr] at hT
        dsimp only at hT
        have hb : b ≠ [] := by rintro rfl; simp [rv] at hr
        split at hT
        · exact .inl (parseF_no hne (.inl hT))
        · rw [parseF_ok hne hT, h2]
          cases parseF ((b.drop m).drop v) with
          | none => exact .inl rfl
          | some l => exact .inr ⟨hb, _, _, _, rfl⟩
    · rw [if_neg h2] at hT
      by_cases h1 : x % 8 = 1
      · rw [if_pos h1] at hT
        refine .inl ⟨h1, ?_⟩
        split at hT
        · rename_i hl; exact .inl ⟨hl, parseF_no hne (.inl hT)⟩
        · rename_i hl
          rw [parseF_ok hne hT]
          cases hp : parseF (b.drop 8) with
          | none =>
            refine .inr (.inl ⟨?_, rfl⟩)
            rcases Nat.lt_or_ge 8 b.length with h | h
            · exact h
            · rw [List.drop_eq_nil_of_le h, parseF_nil] at hp; cases hp
          | some l => exact .inr (.inr ⟨by omega, _, rfl⟩)
      · rw [if_neg h1] at hT
        by_cases h5 : x % 8 = 5
        · rw [if_pos h5] at hT
          refine .inr (.inl ⟨h5, ?_⟩)
          split at hT
          · rename_i hl; exact .inl ⟨hl, parseF_no hne (.inl hT)⟩
          · rename_i hl
            rw [parseF_ok hne hT]
            cases hp : parseF (b.drop 4) with
            | none =>
              refine .inr (.inl ⟨?_, rfl⟩)
              rcases Nat.lt_or_ge 4 b.length with h | h
              · exact h
              · rw [List.drop_eq_nil_of_le h, parseF_nil] at hp; cases hp
            | some l => exact .inr (.inr ⟨by omega, _, rfl⟩)
        · rw [if_neg h5] at hT
          exact .inr (.inr (.inr ⟨h0, h1, h2, h5, parseF_no hne (.inr hT)⟩))
set_option maxRecDepth 100000 in
set_option maxHeartbeats 8000000 in
theorem wireKinds_ca {p q : Addr} {w : World} (hg : Glo w p q) (kind num : Nat) (hkind : kind < 256) (hnum : num < 256) (s : List UInt8) (hs : s.length ≤ 9223372036854775807) :
    Ca Tryd.prog 7 #[.int .u8 (kind : Int), .int .u8 (num : Int), S s] w fun v w' => v = .bool true ∧ Keeps NoB w w' := by
  refine ca_of_body (args := [.int .u8 (kind : Int), .int .u8 (num : Int), S s]) Tryd.func7 rfl (by kernel_rfl) ?_
  repeat (first
        | (apply wr_move; exact rfl; with_reducible (conv => enter [6, 3]; whnf))
        | (apply wr_assign; exact rfl; with_reducible (conv => enter [6, 3]; whnf))
        | apply wr_end
        | apply wc_seq
        | apply wc_region
        | (apply wr_fieldAddr; exact rfl; exact rfl)
        | (apply wr_load; exact rfl; exact rfl; exact rfl; (first | with_reducible assumption | exact heap_alloc_same _ _ | ((repeat (first | refine (heap_alloc_ne _ _ (by (first | omega | (simp only [World.size_alloc, World.putObj_size, ne_eq]; omega)))).trans ?_ | refine (heap_put_ne _ _ (by (first | omega | (simp only [World.size_alloc, World.putObj_size, ne_eq]; omega)))).trans ?_)); (first | with_reducible assumption | exact heap_alloc_same _ _ | exact World.putObj_heap_same (by (first | omega | (simp only [World.size_alloc, World.putObj_size, ne_eq]; omega)))))); exact rfl; conv => enter [6, 3]; whnf)
        | (apply wr_cmp; exact rfl; exact rfl; exact rfl; (first | exact cmp_lt_t (by omega) | exact cmp_lt_f (by omega) | exact cmp_eq_t (by omega) | exact cmp_eq_f (by omega) | exact cmp_ne_t (by omega) | exact cmp_ne_f (by omega) | exact cmp_le_t (by omega) | exact cmp_le_f (by omega) | exact cmp_gt_t (by omega) | exact cmp_gt_f (by omega) | exact cmp_ge_t (by omega) | exact cmp_ge_f (by omega) | exact cmp_lt _ _ | exact cmp_le _ _ | exact cmp_gt _ _ | exact cmp_ge _ _ | exact cmp_eq _ _ | exact cmp_ne _ _))
        | (apply wr_pick (t := true); exact rfl; exact rfl; with_reducible (conv => enter [6, 3]; whnf))
        | (apply wr_pick (t := false); exact rfl; exact rfl; with_reducible (conv => enter [6, 3]; whnf))
        | (apply wr_add; exact rfl; exact rfl; exact rfl; (first | exact w_i64 (by omega) | exact w_u64 (by omega) | exact w_u8 (by omega) | exact w_u16 (by omega) | exact w_i32 (by omega) | exact w_u32 (by omega) | with_reducible assumption | rfl))
        | (apply wr_sub; exact rfl; exact rfl; exact rfl; (first | exact w_i64 (by omega) | exact w_u64 (by omega) | exact w_u8 (by omega) | exact w_u16 (by omega) | exact w_i32 (by omega) | exact w_u32 (by omega) | with_reducible assumption | rfl))
        | (apply wr_mul; exact rfl; exact rfl; exact rfl; (first | exact w_i64 (by omega) | exact w_u64 (by omega) | exact w_u8 (by omega) | exact w_u16 (by omega) | exact w_i32 (by omega) | exact w_u32 (by omega) | with_reducible assumption | rfl))
        | (apply wr_conv; exact rfl; exact rfl; (first | exact w_i64 (by omega) | exact w_u64 (by omega) | exact w_u8 (by omega) | exact w_u16 (by omega) | exact w_i32 (by omega) | exact w_u32 (by omega) | with_reducible assumption | rfl))
        | (apply wr_not; exact rfl; exact rfl)
        | (apply wr_extract; exact rfl; exact rfl; exact rfl; with_reducible (conv => enter [6, 3]; whnf))
        | (apply wr_len_str; exact rfl; exact rfl)
        | (apply wr_len_slice; exact rfl; exact rfl)
        | (apply wr_store; exact rfl; exact rfl; exact rfl; (first | exact rfl | with_reducible assumption); (first | with_reducible assumption | exact heap_alloc_same _ _ | ((repeat (first | refine (heap_alloc_ne _ _ (by (first | omega | (simp only [World.size_alloc, World.putObj_size, ne_eq]; omega)))).trans ?_ | refine (heap_put_ne _ _ (by (first | omega | (simp only [World.size_alloc, World.putObj_size, ne_eq]; omega)))).trans ?_)); (first | with_reducible assumption | exact heap_alloc_same _ _ | exact World.putObj_heap_same (by (first | omega | (simp only [World.size_alloc, World.putObj_size, ne_eq]; omega)))))); exact rfl)
        | (apply wr_box; exact rfl; exact rfl)
        | (apply wr_alloc; exact rfl)
        | (apply wr_cat; exact rfl; exact rfl; exact rfl; (first | omega | (simp only [List.length_append]; omega)))
        | (apply wr_streqc; exact rfl; exact rfl; exact rfl; (first | exact decide_eq_true (by with_reducible assumption) | exact decide_eq_false (by with_reducible assumption) | exact decide_eq_true rfl | exact rfl))
        | (apply wr_strnec; exact rfl; exact rfl; exact rfl; (first | exact decide_eq_true (by with_reducible assumption) | exact decide_eq_false (by with_reducible assumption) | exact decide_eq_true rfl | exact rfl); with_reducible (conv => enter [6, 3]; whnf))
        | (apply wr_bits; exact rfl; (focus (simp; done)); exact rfl; exact rfl; assumption)
        | (apply wr_eqnil_t; exact rfl; exact rfl)
        | (apply wr_eqnil_f; exact rfl; exact rfl)
        | (apply wr_nenil_f; exact rfl; exact rfl)
        | (apply wr_nenil_t; exact rfl; exact rfl)
        | (apply wc_true; exact rfl)
        | (apply wc_false; exact rfl)
        | apply wc_skip
        | apply wc_block
        | (apply wc_exit; try simp only [thenE, inBlockE, bodyQ, ↓reduceIte, Nat.reduceEqDiff])
        | (apply wc_ret; try simp only [thenE, inBlockE, bodyQ])
        | (apply wr_nil; try simp only [thenE, inBlockE, bodyQ])
        | (apply wr_skip; exact rfl))
  refine wr_call (vs := []) rfl (examples_ca hg) rfl ?_
  rintro v w1 ⟨rfl, hk1⟩
  have hg1 := hg.keep hk1 (fun i hi h => h)
  repeat (first
        | (apply wr_move; exact rfl; with_reducible (conv => enter [6, 3]; whnf))
        | (apply wr_assign; exact rfl; with_reducible (conv => enter [6, 3]; whnf))
        | apply wr_end
        | apply wc_seq
        | apply wc_region
        | (apply wr_fieldAddr; exact rfl; exact rfl)
        | (apply wr_load; exact rfl; exact rfl; exact rfl; (first | with_reducible assumption | exact heap_alloc_same _ _ | ((repeat (first | refine (heap_alloc_ne _ _ (by (first | omega | (simp only [World.size_alloc, World.putObj_size, ne_eq]; omega)))).trans ?_ | refine (heap_put_ne _ _ (by (first | omega | (simp only [World.size_alloc, World.putObj_size, ne_eq]; omega)))).trans ?_)); (first | with_reducible assumption | exact heap_alloc_same _ _ | exact World.putObj_heap_same (by (first | omega | (simp only [World.size_alloc, World.putObj_size, ne_eq]; omega)))))); exact rfl; conv => enter [6, 3]; whnf)
        | (apply wr_cmp; exact rfl; exact rfl; exact rfl; (first | exact cmp_lt_t (by omega) | exact cmp_lt_f (by omega) | exact cmp_eq_t (by omega) | exact cmp_eq_f (by omega) | exact cmp_ne_t (by omega) | exact cmp_ne_f (by omega) | exact cmp_le_t (by omega) | exact cmp_le_f (by omega) | exact cmp_gt_t (by omega) | exact cmp_gt_f (by omega) | exact cmp_ge_t (by omega) | exact cmp_ge_f (by omega) | exact cmp_lt _ _ | exact cmp_le _ _ | exact cmp_gt _ _ | exact cmp_ge _ _ | exact cmp_eq _ _ | exact cmp_ne _ _))
        | (apply wr_pick (t := true); exact rfl; exact rfl; with_reducible (conv => enter [6, 3]; whnf))
        | (apply wr_pick (t := false); exact rfl; exact rfl; with_reducible (conv => enter [6, 3]; whnf))
        | (apply wr_add; exact rfl; exact rfl; exact rfl; (first | exact w_i64 (by omega) | exact w_u64 (by omega) | exact w_u8 (by omega) | exact w_u16 (by omega) | exact w_i32 (by omega) | exact w_u32 (by omega) | with_reducible assumption | rfl))
        | (apply wr_sub; exact rfl; exact rfl; exact rfl; (first | exact w_i64 (by omega) | exact w_u64 (by omega) | exact w_u8 (by omega) | exact w_u16 (by omega) | exact w_i32 (by omega) | exact w_u32 (by omega) | with_reducible assumption | rfl))
        | (apply wr_mul; exact rfl; exact rfl; exact rfl; (first | exact w_i64 (by omega) | exact w_u64 (by omega) | exact w_u8 (by omega) | exact w_u16 (by omega) | exact w_i32 (by omega) | exact w_u32 (by omega) | with_reducible assumption | rfl))
        | (apply wr_conv; exact rfl; exact rfl; (first | exact w_i64 (by omega) | exact w_u64 (by omega) | exact w_u8 (by omega) | exact w_u16 (by omega) | exact w_i32 (by omega) | exact w_u32 (by omega) | with_reducible assumption | rfl))
        | (apply wr_not; exact rfl; exact rfl)
        | (apply wr_extract; exact rfl; exact rfl; exact rfl; with_reducible (conv => enter [6, 3]; whnf))
        | (apply wr_len_str; exact rfl; exact rfl)
        | (apply wr_len_slice; exact rfl; exact rfl)
        | (apply wr_store; exact rfl; exact rfl; exact rfl; (first | exact rfl | with_reducible assumption); (first | with_reducible assumption | exact heap_alloc_same _ _ | ((repeat (first | refine (heap_alloc_ne _ _ (by (first | omega | (simp only [World.size_alloc, World.putObj_size, ne_eq]; omega)))).trans ?_ | refine (heap_put_ne _ _ (by (first | omega | (simp only [World.size_alloc, World.putObj_size, ne_eq]; omega)))).trans ?_)); (first | with_reducible assumption | exact heap_alloc_same _ _ | exact World.putObj_heap_same (by (first | omega | (simp only [World.size_alloc, World.putObj_size, ne_eq]; omega)))))); exact rfl)
        | (apply wr_box; exact rfl; exact rfl)
        | (apply wr_alloc; exact rfl)
        | (apply wr_cat; exact rfl; exact rfl; exact rfl; (first | omega | (simp only [List.length_append]; omega)))
        | (apply wr_streqc; exact rfl; exact rfl; exact rfl; (first | exact decide_eq_true (by with_reducible assumption) | exact decide_eq_false (by with_reducible assumption) | exact decide_eq_true rfl | exact rfl))
        | (apply wr_strnec; exact rfl; exact rfl; exact rfl; (first | exact decide_eq_true (by with_reducible assumption) | exact decide_eq_false (by with_reducible assumption) | exact decide_eq_true rfl | exact rfl); with_reducible (conv => enter [6, 3]; whnf))
        | (apply wr_bits; exact rfl; (focus (simp; done)); exact rfl; exact rfl; assumption)
        | (apply wr_eqnil_t; exact rfl; exact rfl)
        | (apply wr_eqnil_f; exact rfl; exact rfl)
        | (apply wr_nenil_f; exact rfl; exact rfl)
        | (apply wr_nenil_t; exact rfl; exact rfl)
        | (apply wc_true; exact rfl)
        | (apply wc_false; exact rfl)
        | apply wc_skip
        | apply wc_block
        | (apply wc_exit; try simp only [thenE, inBlockE, bodyQ, ↓reduceIte, Nat.reduceEqDiff])
        | (apply wc_ret; try simp only [thenE, inBlockE, bodyQ])
        | (apply wr_nil; try simp only [thenE, inBlockE, bodyQ])
        | (apply wr_skip; exact rfl))
  refine wr_remN (n := kind) (m := 8) rfl rfl rfl (by decide) ?_
  repeat (first
        | (apply wr_move; exact rfl; with_reducible (conv => enter [6, 3]; whnf))
        | (apply wr_assign; exact rfl; with_reducible (conv => enter [6, 3]; whnf))
        | apply wr_end
        | apply wc_seq
        | apply wc_region
        | (apply wr_fieldAddr; exact rfl; exact rfl)
        | (apply wr_load; exact rfl; exact rfl; exact rfl; (first | with_reducible assumption | exact heap_alloc_same _ _ | ((repeat (first | refine (heap_alloc_ne _ _ (by (first | omega | (simp only [World.size_alloc, World.putObj_size, ne_eq]; omega)))).trans ?_ | refine (heap_put_ne _ _ (by (first | omega | (simp only [World.size_alloc, World.putObj_size, ne_eq]; omega)))).trans ?_)); (first | with_reducible assumption | exact heap_alloc_same _ _ | exact World.putObj_heap_same (by (first | omega | (simp only [World.size_alloc, World.putObj_size, ne_eq]; omega)))))); exact rfl; conv => enter [6, 3]; whnf)
        | (apply wr_cmp; exact rfl; exact rfl; exact rfl; (first | exact cmp_lt_t (by omega) | exact cmp_lt_f (by omega) | exact cmp_eq_t (by omega) | exact cmp_eq_f (by omega) | exact cmp_ne_t (by omega) | exact cmp_ne_f (by omega) | exact cmp_le_t (by omega) | exact cmp_le_f (by omega) | exact cmp_gt_t (by omega) | exact cmp_gt_f (by omega) | exact cmp_ge_t (by omega) | exact cmp_ge_f (by omega) | exact cmp_lt _ _ | exact cmp_le _ _ | exact cmp_gt _ _ | exact cmp_ge _ _ | exact cmp_eq _ _ | exact cmp_ne _ _))
        | (apply wr_pick (t := true); exact rfl; exact rfl; with_reducible (conv => enter [6, 3]; whnf))
        | (apply wr_pick (t := false); exact rfl; exact rfl; with_reducible (conv => enter [6, 3]; whnf))
        | (apply wr_add; exact rfl; exact rfl; exact rfl; (first | exact w_i64 (by omega) | exact w_u64 (by omega) | exact w_u8 (by omega) | exact w_u16 (by omega) | exact w_i32 (by omega) | exact w_u32 (by omega) | with_reducible assumption | rfl))
        | (apply wr_sub; exact rfl; exact rfl; exact rfl; (first | exact w_i64 (by omega) | exact w_u64 (by omega) | exact w_u8 (by omega) | exact w_u16 (by omega) | exact w_i32 (by omega) | exact w_u32 (by omega) | with_reducible assumption | rfl))
        | (apply wr_mul; exact rfl; exact rfl; exact rfl; (first | exact w_i64 (by omega) | exact w_u64 (by omega) | exact w_u8 (by omega) | exact w_u16 (by omega) | exact w_i32 (by omega) | exact w_u32 (by omega) | with_reducible assumption | rfl))
        | (apply wr_conv; exact rfl; exact rfl; (first | exact w_i64 (by omega) | exact w_u64 (by omega) | exact w_u8 (by omega) | exact w_u16 (by omega) | exact w_i32 (by omega) | exact w_u32 (by omega) | with_reducible assumption | rfl))
        | (apply wr_not; exact rfl; exact rfl)
        | (apply wr_extract; exact rfl; exact rfl; exact rfl; with_reducible (conv => enter [6, 3]; whnf))
        | (apply wr_len_str; exact rfl; exact rfl)
        | (apply wr_len_slice; exact rfl; exact rfl)
        | (apply wr_store; exact rfl; exact rfl; exact rfl; (first | exact rfl | with_reducible assumption); (first | with_reducible assumption | exact heap_alloc_same _ _ | ((repeat (first | refine (heap_alloc_ne _ _ (by (first | omega | (simp only [World.size_alloc, World.putObj_size, ne_eq]; omega)))).trans ?_ | refine (heap_put_ne _ _ (by (first | omega | (simp only [World.size_alloc, World.putObj_size, ne_eq]; omega)))).trans ?_)); (first | with_reducible assumption | exact heap_alloc_same _ _ | exact World.putObj_heap_same (by (first | omega | (simp only [World.size_alloc, World.putObj_size, ne_eq]; omega)))))); exact rfl)
        | (apply wr_box; exact rfl; exact rfl)
        | (apply wr_alloc; exact rfl)
        | (apply wr_cat; exact rfl; exact rfl; exact rfl; (first | omega | (simp only [List.length_append]; omega)))
        | (apply wr_streqc; exact rfl; exact rfl; exact rfl; (first | exact decide_eq_true (by with_reducible assumption) | exact decide_eq_false (by with_reducible assumption) | exact decide_eq_true rfl | exact rfl))
        | (apply wr_strnec; exact rfl; exact rfl; exact rfl; (first | exact decide_eq_true (by with_reducible assumption) | exact decide_eq_false (by with_reducible assumption) | exact decide_eq_true rfl | exact rfl); with_reducible (conv => enter [6, 3]; whnf))
        | (apply wr_bits; exact rfl; (focus (simp; done)); exact rfl; exact rfl; assumption)
        | (apply wr_eqnil_t; exact rfl; exact rfl)
        | (apply wr_eqnil_f; exact rfl; exact rfl)
        | (apply wr_nenil_f; exact rfl; exact rfl)
        | (apply wr_nenil_t; exact rfl; exact rfl)
        | (apply wc_true; exact rfl)
        | (apply wc_false; exact rfl)
        | apply wc_skip
        | apply wc_block
        | (apply wc_exit; try simp only [thenE, inBlockE, bodyQ, ↓reduceIte, Nat.reduceEqDiff])
        | (apply wc_ret; try simp only [thenE, inBlockE, bodyQ])
        | (apply wr_nil; try simp only [thenE, inBlockE, bodyQ])
        | (apply wr_skip; exact rfl))
  refine wr_remN (n := num) (m := 15) rfl rfl rfl (by decide) ?_
  repeat (first
        | (apply wr_move; exact rfl; with_reducible (conv => enter [6, 3]; whnf))
        | (apply wr_assign; exact rfl; with_reducible (conv => enter [6, 3]; whnf))
        | apply wr_end
        | apply wc_seq
        | apply wc_region
        | (apply wr_fieldAddr; exact rfl; exact rfl)
        | (apply wr_load; exact rfl; exact rfl; exact rfl; (first | with_reducible assumption | exact heap_alloc_same _ _ | ((repeat (first | refine (heap_alloc_ne _ _ (by (first | omega | (simp only [World.size_alloc, World.putObj_size, ne_eq]; omega)))).trans ?_ | refine (heap_put_ne _ _ (by (first | omega | (simp only [World.size_alloc, World.putObj_size, ne_eq]; omega)))).trans ?_)); (first | with_reducible assumption | exact heap_alloc_same _ _ | exact World.putObj_heap_same (by (first | omega | (simp only [World.size_alloc, World.putObj_size, ne_eq]; omega)))))); exact rfl; conv => enter [6, 3]; whnf)
        | (apply wr_cmp; exact rfl; exact rfl; exact rfl; (first | exact cmp_lt_t (by omega) | exact cmp_lt_f (by omega) | exact cmp_eq_t (by omega) | exact cmp_eq_f (by omega) | exact cmp_ne_t (by omega) | exact cmp_ne_f (by omega) | exact cmp_le_t (by omega) | exact cmp_le_f (by omega) | exact cmp_gt_t (by omega) | exact cmp_gt_f (by omega) | exact cmp_ge_t (by omega) | exact cmp_ge_f (by omega) | exact cmp_lt _ _ | exact cmp_le _ _ | exact cmp_gt _ _ | exact cmp_ge _ _ | exact cmp_eq _ _ | exact cmp_ne _ _))
        | (apply wr_pick (t := true); exact rfl; exact rfl; with_reducible (conv => enter [6, 3]; whnf))
        | (apply wr_pick (t := false); exact rfl; exact rfl; with_reducible (conv => enter [6, 3]; whnf))
        | (apply wr_add; exact rfl; exact rfl; exact rfl; (first | exact w_i64 (by omega) | exact w_u64 (by omega) | exact w_u8 (by omega) | exact w_u16 (by omega) | exact w_i32 (by omega) | exact w_u32 (by omega) | with_reducible assumption | rfl))
        | (apply wr_sub; exact rfl; exact rfl; exact rfl; (first | exact w_i64 (by omega) | exact w_u64 (by omega) | exact w_u8 (by omega) | exact w_u16 (by omega) | exact w_i32 (by omega) | exact w_u32 (by omega) | with_reducible assumption | rfl))
        | (apply wr_mul; exact rfl; exact rfl; exact rfl; (first | exact w_i64 (by omega) | exact w_u64 (by omega) | exact w_u8 (by omega) | exact w_u16 (by omega) | exact w_i32 (by omega) | exact w_u32 (by omega) | with_reducible assumption | rfl))
        | (apply wr_conv; exact rfl; exact rfl; (first | exact w_i64 (by omega) | exact w_u64 (by omega) | exact w_u8 (by omega) | exact w_u16 (by omega) | exact w_i32 (by omega) | exact w_u32 (by omega) | with_reducible assumption | rfl))
        | (apply wr_not; exact rfl; exact rfl)
        | (apply wr_extract; exact rfl; exact rfl; exact rfl; with_reducible (conv => enter [6, 3]; whnf))
        | (apply wr_len_str; exact rfl; exact rfl)
        | (apply wr_len_slice; exact rfl; exact rfl)
        | (apply wr_store; exact rfl; exact rfl; exact rfl; (first | exact rfl | with_reducible assumption); (first | with_reducible assumption | exact heap_alloc_same _ _ | ((repeat (first | refine (heap_alloc_ne _ _ (by (first | omega | (simp only [World.size_alloc, World.putObj_size, ne_eq]; omega)))).trans ?_ | refine (heap_put_ne _ _ (by (first | omega | (simp only [World.size_alloc, World.putObj_size, ne_eq]; omega)))).trans ?_)); (first | with_reducible assumption | exact heap_alloc_same _ _ | exact World.putObj_heap_same (by (first | omega | (simp only [World.size_alloc, World.putObj_size, ne_eq]; omega)))))); exact rfl)
        | (apply wr_box; exact rfl; exact rfl)
        | (apply wr_alloc; exact rfl)
        | (apply wr_cat; exact rfl; exact rfl; exact rfl; (first | omega | (simp only [List.length_append]; omega)))
        | (apply wr_streqc; exact rfl; exact rfl; exact rfl; (first | exact decide_eq_true (by with_reducible assumption) | exact decide_eq_false (by with_reducible assumption) | exact decide_eq_true rfl | exact rfl))
        | (apply wr_strnec; exact rfl; exact rfl; exact rfl; (first | exact decide_eq_true (by with_reducible assumption) | exact decide_eq_false (by with_reducible assumption) | exact decide_eq_true rfl | exact rfl); with_reducible (conv => enter [6, 3]; whnf))
        | (apply wr_bits; exact rfl; (focus (simp; done)); exact rfl; exact rfl; assumption)
        | (apply wr_eqnil_t; exact rfl; exact rfl)
        | (apply wr_eqnil_f; exact rfl; exact rfl)
        | (apply wr_nenil_f; exact rfl; exact rfl)
        | (apply wr_nenil_t; exact rfl; exact rfl)
        | (apply wc_true; exact rfl)
        | (apply wc_false; exact rfl)
        | apply wc_skip
        | apply wc_block
        | (apply wc_exit; try simp only [thenE, inBlockE, bodyQ, ↓reduceIte, Nat.reduceEqDiff])
        | (apply wc_ret; try simp only [thenE, inBlockE, bodyQ])
        | (apply wr_nil; try simp only [thenE, inBlockE, bodyQ])
        | (apply wr_skip; exact rfl))
  refine wr_min (c := ((Nat.min s.length 12 : Nat) : Int)) rfl rfl rfl (by rw [show Nat.min s.length 12 = min s.length 12 from rfl, Nat.min_def]; split <;> split <;> omega) ?_
  have hmin : Nat.min s.length 12 ≤ 12 ∧ Nat.min s.length 12 ≤ s.length := ⟨Nat.min_le_right _ _, Nat.min_le_left _ _⟩
  refine wr_sl_to (j := Nat.min s.length 12) rfl rfl rfl hmin.2 ?_
  have hbl : (s.take (Nat.min s.length 12)).length ≤ 12 := by rw [List.length_take]; omega
  generalize s.take (Nat.min s.length 12) = b at hbl ⊢
  obtain ⟨k, hk⟩ : ∃ k, k = kind % 8 := ⟨_, rfl⟩
  obtain ⟨n, hn⟩ : ∃ n, n = 1 + num % 15 := ⟨_, rfl⟩
  have hk8 : k < 8 := by omega
  have hn15 : 1 ≤ n ∧ n ≤ 15 := by omega
  rw [← hk]
  have hn' : (1 : Int) + ((num % 15 : Nat) : Int) = (n : Int) := by omega
  rw [hn']
  repeat (first
        | (apply wr_move; exact rfl; with_reducible (conv => enter [6, 3]; whnf))
        | (apply wr_assign; exact rfl; with_reducible (conv => enter [6, 3]; whnf))
        | apply wr_end
        | apply wc_seq
        | apply wc_region
        | (apply wr_fieldAddr; exact rfl; exact rfl)
        | (apply wr_load; exact rfl; exact rfl; exact rfl; (first | with_reducible assumption | exact heap_alloc_same _ _ | ((repeat (first | refine (heap_alloc_ne _ _ (by (first | omega | (simp only [World.size_alloc, World.putObj_size, ne_eq]; omega)))).trans ?_ | refine (heap_put_ne _ _ (by (first | omega | (simp only [World.size_alloc, World.putObj_size, ne_eq]; omega)))).trans ?_)); (first | with_reducible assumption | exact heap_alloc_same _ _ | exact World.putObj_heap_same (by (first | omega | (simp only [World.size_alloc, World.putObj_size, ne_eq]; omega)))))); exact rfl; conv => enter [6, 3]; whnf)
        | (apply wr_cmp; exact rfl; exact rfl; exact rfl; (first | exact cmp_lt_t (by omega) | exact cmp_lt_f (by omega) | exact cmp_eq_t (by omega) | exact cmp_eq_f (by omega) | exact cmp_ne_t (by omega) | exact cmp_ne_f (by omega) | exact cmp_le_t (by omega) | exact cmp_le_f (by omega) | exact cmp_gt_t (by omega) | exact cmp_gt_f (by omega) | exact cmp_ge_t (by omega) | exact cmp_ge_f (by omega) | exact cmp_lt _ _ | exact cmp_le _ _ | exact cmp_gt _ _ | exact cmp_ge _ _ | exact cmp_eq _ _ | exact cmp_ne _ _))
        | (apply wr_pick (t := true); exact rfl; exact rfl; with_reducible (conv => enter [6, 3]; whnf))
        | (apply wr_pick (t := false); exact rfl; exact rfl; with_reducible (conv => enter [6, 3]; whnf))
        | (apply wr_add; exact rfl; exact rfl; exact rfl; (first | exact w_i64 (by omega) | exact w_u64 (by omega) | exact w_u8 (by omega) | exact w_u16 (by omega) | exact w_i32 (by omega) | exact w_u32 (by omega) | with_reducible assumption | rfl))
        | (apply wr_sub; exact rfl; exact rfl; exact rfl; (first | exact w_i64 (by omega) | exact w_u64 (by omega) | exact w_u8 (by omega) | exact w_u16 (by omega) | exact w_i32 (by omega) | exact w_u32 (by omega) | with_reducible assumption | rfl))
        | (apply wr_mul; exact rfl; exact rfl; exact rfl; (first | exact w_i64 (by omega) | exact w_u64 (by omega) | exact w_u8 (by omega) | exact w_u16 (by omega) | exact w_i32 (by omega) | exact w_u32 (by omega) | with_reducible assumption | rfl))
        | (apply wr_conv; exact rfl; exact rfl; (first | exact w_i64 (by omega) | exact w_u64 (by omega) | exact w_u8 (by omega) | exact w_u16 (by omega) | exact w_i32 (by omega) | exact w_u32 (by omega) | with_reducible assumption | rfl))
        | (apply wr_not; exact rfl; exact rfl)
        | (apply wr_extract; exact rfl; exact rfl; exact rfl; with_reducible (conv => enter [6, 3]; whnf))
        | (apply wr_len_str; exact rfl; exact rfl)
        | (apply wr_len_slice; exact rfl; exact rfl)
        | (apply wr_store; exact rfl; exact rfl; exact rfl; (first | exact rfl | with_reducible assumption); (first | with_reducible assumption | exact heap_alloc_same _ _ | ((repeat (first | refine (heap_alloc_ne _ _ (by (first | omega | (simp only [World.size_alloc, World.putObj_size, ne_eq]; omega)))).trans ?_ | refine (heap_put_ne _ _ (by (first | omega | (simp only [World.size_alloc, World.putObj_size, ne_eq]; omega)))).trans ?_)); (first | with_reducible assumption | exact heap_alloc_same _ _ | exact World.putObj_heap_same (by (first | omega | (simp only [World.size_alloc, World.putObj_size, ne_eq]; omega)))))); exact rfl)
        | (apply wr_box; exact rfl; exact rfl)
        | (apply wr_alloc; exact rfl)
        | (apply wr_cat; exact rfl; exact rfl; exact rfl; (first | omega | (simp only [List.length_append]; omega)))
        | (apply wr_streqc; exact rfl; exact rfl; exact rfl; (first | exact decide_eq_true (by with_reducible assumption) | exact decide_eq_false (by with_reducible assumption) | exact decide_eq_true rfl | exact rfl))
        | (apply wr_strnec; exact rfl; exact rfl; exact rfl; (first | exact decide_eq_true (by with_reducible assumption) | exact decide_eq_false (by with_reducible assumption) | exact decide_eq_true rfl | exact rfl); with_reducible (conv => enter [6, 3]; whnf))
        | (apply wr_bits; exact rfl; (focus (simp; done)); exact rfl; exact rfl; assumption)
        | (apply wr_eqnil_t; exact rfl; exact rfl)
        | (apply wr_eqnil_f; exact rfl; exact rfl)
        | (apply wr_nenil_f; exact rfl; exact rfl)
        | (apply wr_nenil_t; exact rfl; exact rfl)
        | (apply wc_true; exact rfl)
        | (apply wc_false; exact rfl)
        | apply wc_skip
        | apply wc_block
        | (apply wc_exit; try simp only [thenE, inBlockE, bodyQ, ↓reduceIte, Nat.reduceEqDiff])
        | (apply wc_ret; try simp only [thenE, inBlockE, bodyQ])
        | (apply wr_nil; try simp only [thenE, inBlockE, bodyQ])
        | (apply wr_skip; exact rfl))
  have hx' : (8 : Int) * (n : Int) + (k : Int) = ((8 * n + k : Nat) : Int) := by omega
  rw [hx']
  obtain ⟨x, hx⟩ : ∃ x, x = 8 * n + k := ⟨_, rfl⟩
  rw [← hx]
  have hx128 : x < 128 := by omega
  have hx8 : 8 ≤ x := by omega
  have hxk : x % 8 = k := by omega
  have hxn : x / 8 = n := by omega
  repeat (first
        | (apply wr_move; exact rfl; with_reducible (conv => enter [6, 3]; whnf))
        | (apply wr_assign; exact rfl; with_reducible (conv => enter [6, 3]; whnf))
        | apply wr_end
        | apply wc_seq
        | apply wc_region
        | (apply wr_fieldAddr; exact rfl; exact rfl)
        | (apply wr_load; exact rfl; exact rfl; exact rfl; (first | with_reducible assumption | exact heap_alloc_same _ _ | ((repeat (first | refine (heap_alloc_ne _ _ (by (first | omega | (simp only [World.size_alloc, World.putObj_size, ne_eq]; omega)))).trans ?_ | refine (heap_put_ne _ _ (by (first | omega | (simp only [World.size_alloc, World.putObj_size, ne_eq]; omega)))).trans ?_)); (first | with_reducible assumption | exact heap_alloc_same _ _ | exact World.putObj_heap_same (by (first | omega | (simp only [World.size_alloc, World.putObj_size, ne_eq]; omega)))))); exact rfl; conv => enter [6, 3]; whnf)
        | (apply wr_cmp; exact rfl; exact rfl; exact rfl; (first | exact cmp_lt_t (by omega) | exact cmp_lt_f (by omega) | exact cmp_eq_t (by omega) | exact cmp_eq_f (by omega) | exact cmp_ne_t (by omega) | exact cmp_ne_f (by omega) | exact cmp_le_t (by omega) | exact cmp_le_f (by omega) | exact cmp_gt_t (by omega) | exact cmp_gt_f (by omega) | exact cmp_ge_t (by omega) | exact cmp_ge_f (by omega) | exact cmp_lt _ _ | exact cmp_le _ _ | exact cmp_gt _ _ | exact cmp_ge _ _ | exact cmp_eq _ _ | exact cmp_ne _ _))
        | (apply wr_pick (t := true); exact rfl; exact rfl; with_reducible (conv => enter [6, 3]; whnf))
        | (apply wr_pick (t := false); exact rfl; exact rfl; with_reducible (conv => enter [6, 3]; whnf))
        | (apply wr_add; exact rfl; exact rfl; exact rfl; (first | exact w_i64 (by omega) | exact w_u64 (by omega) | exact w_u8 (by omega) | exact w_u16 (by omega) | exact w_i32 (by omega) | exact w_u32 (by omega) | with_reducible assumption | rfl))
        | (apply wr_sub; exact rfl; exact rfl; exact rfl; (first | exact w_i64 (by omega) | exact w_u64 (by omega) | exact w_u8 (by omega) | exact w_u16 (by omega) | exact w_i32 (by omega) | exact w_u32 (by omega) | with_reducible assumption | rfl))
        | (apply wr_mul; exact rfl; exact rfl; exact rfl; (first | exact w_i64 (by omega) | exact w_u64 (by omega) | exact w_u8 (by omega) | exact w_u16 (by omega) | exact w_i32 (by omega) | exact w_u32 (by omega) | with_reducible assumption | rfl))
        | (apply wr_conv; exact rfl; exact rfl; (first | exact w_i64 (by omega) | exact w_u64 (by omega) | exact w_u8 (by omega) | exact w_u16 (by omega) | exact w_i32 (by omega) | exact w_u32 (by omega) | with_reducible assumption | rfl))
        | (apply wr_not; exact rfl; exact rfl)
        | (apply wr_extract; exact rfl; exact rfl; exact rfl; with_reducible (conv => enter [6, 3]; whnf))
        | (apply wr_len_str; exact rfl; exact rfl)
        | (apply wr_len_slice; exact rfl; exact rfl)
        | (apply wr_store; exact rfl; exact rfl; exact rfl; (first | exact rfl | with_reducible assumption); (first | with_reducible assumption | exact heap_alloc_same _ _ | ((repeat (first | refine (heap_alloc_ne _ _ (by (first | omega | (simp only [World.size_alloc, World.putObj_size, ne_eq]; omega)))).trans ?_ | refine (heap_put_ne _ _ (by (first | omega | (simp only [World.size_alloc, World.putObj_size, ne_eq]; omega)))).trans ?_)); (first | with_reducible assumption | exact heap_alloc_same _ _ | exact World.putObj_heap_same (by (first | omega | (simp only [World.size_alloc, World.putObj_size, ne_eq]; omega)))))); exact rfl)
        | (apply wr_box; exact rfl; exact rfl)
        | (apply wr_alloc; exact rfl)
        | (apply wr_cat; exact rfl; exact rfl; exact rfl; (first | omega | (simp only [List.length_append]; omega)))
        | (apply wr_streqc; exact rfl; exact rfl; exact rfl; (first | exact decide_eq_true (by with_reducible assumption) | exact decide_eq_false (by with_reducible assumption) | exact decide_eq_true rfl | exact rfl))
        | (apply wr_strnec; exact rfl; exact rfl; exact rfl; (first | exact decide_eq_true (by with_reducible assumption) | exact decide_eq_false (by with_reducible assumption) | exact decide_eq_true rfl | exact rfl); with_reducible (conv => enter [6, 3]; whnf))
        | (apply wr_bits; exact rfl; (focus (simp; done)); exact rfl; exact rfl; assumption)
        | (apply wr_eqnil_t; exact rfl; exact rfl)
        | (apply wr_eqnil_f; exact rfl; exact rfl)
        | (apply wr_nenil_f; exact rfl; exact rfl)
        | (apply wr_nenil_t; exact rfl; exact rfl)
        | (apply wc_true; exact rfl)
        | (apply wc_false; exact rfl)
        | apply wc_skip
        | apply wc_block
        | (apply wc_exit; try simp only [thenE, inBlockE, bodyQ, ↓reduceIte, Nat.reduceEqDiff])
        | (apply wc_ret; try simp only [thenE, inBlockE, bodyQ])
        | (apply wr_nil; try simp only [thenE, inBlockE, bodyQ])
        | (apply wr_skip; exact rfl))
  refine wr_buildSlice (vs := [.int .u8 (x : Int)]) rfl rfl (by intro v hv; simp at hv; subst hv; rfl) rfl (by decide) (by decide) (by decide) ?_
  refine wr_bytes2str (l := [UInt8.ofNat x]) rfl rfl ⟨rfl, _, _, rfl, Nat.le_refl _, .inr ⟨_, 0, _, _, _, rfl, heap_alloc_same _ _, ?_⟩⟩ ?_
  · intro j hj
    have hu : (UInt8.ofNat x).toNat = x := by simp; omega
    have : j = 0 := by omega
    subst this
    simp [bytesV, Value.cells]; omega
  repeat (first
        | (apply wr_move; exact rfl; with_reducible (conv => enter [6, 3]; whnf))
        | (apply wr_assign; exact rfl; with_reducible (conv => enter [6, 3]; whnf))
        | apply wr_end
        | apply wc_seq
        | apply wc_region
        | (apply wr_fieldAddr; exact rfl; exact rfl)
        | (apply wr_load; exact rfl; exact rfl; exact rfl; (first | with_reducible assumption | exact heap_alloc_same _ _ | ((repeat (first | refine (heap_alloc_ne _ _ (by (first | omega | (simp only [World.size_alloc, World.putObj_size, ne_eq]; omega)))).trans ?_ | refine (heap_put_ne _ _ (by (first | omega | (simp only [World.size_alloc, World.putObj_size, ne_eq]; omega)))).trans ?_)); (first | with_reducible assumption | exact heap_alloc_same _ _ | exact World.putObj_heap_same (by (first | omega | (simp only [World.size_alloc, World.putObj_size, ne_eq]; omega)))))); exact rfl; conv => enter [6, 3]; whnf)
        | (apply wr_cmp; exact rfl; exact rfl; exact rfl; (first | exact cmp_lt_t (by omega) | exact cmp_lt_f (by omega) | exact cmp_eq_t (by omega) | exact cmp_eq_f (by omega) | exact cmp_ne_t (by omega) | exact cmp_ne_f (by omega) | exact cmp_le_t (by omega) | exact cmp_le_f (by omega) | exact cmp_gt_t (by omega) | exact cmp_gt_f (by omega) | exact cmp_ge_t (by omega) | exact cmp_ge_f (by omega) | exact cmp_lt _ _ | exact cmp_le _ _ | exact cmp_gt _ _ | exact cmp_ge _ _ | exact cmp_eq _ _ | exact cmp_ne _ _))
        | (apply wr_pick (t := true); exact rfl; exact rfl; with_reducible (conv => enter [6, 3]; whnf))
        | (apply wr_pick (t := false); exact rfl; exact rfl; with_reducible (conv => enter [6, 3]; whnf))
        | (apply wr_add; exact rfl; exact rfl; exact rfl; (first | exact w_i64 (by omega) | exact w_u64 (by omega) | exact w_u8 (by omega) | exact w_u16 (by omega) | exact w_i32 (by omega) | exact w_u32 (by omega) | with_reducible assumption | rfl))
        | (apply wr_sub; exact rfl; exact rfl; exact rfl; (first | exact w_i64 (by omega) | exact w_u64 (by omega) | exact w_u8 (by omega) | exact w_u16 (by omega) | exact w_i32 (by omega) | exact w_u32 (by omega) | with_reducible assumption | rfl))
        | (apply wr_mul; exact rfl; exact rfl; exact rfl; (first | exact w_i64 (by omega) | exact w_u64 (by omega) | exact w_u8 (by omega) | exact w_u16 (by omega) | exact w_i32 (by omega) | exact w_u32 (by omega) | with_reducible assumption | rfl))
        | (apply wr_conv; exact rfl; exact rfl; (first | exact w_i64 (by omega) | exact w_u64 (by omega) | exact w_u8 (by omega) | exact w_u16 (by omega) | exact w_i32 (by omega) | exact w_u32 (by omega) | with_reducible assumption | rfl))
        | (apply wr_not; exact rfl; exact rfl)
        | (apply wr_extract; exact rfl; exact rfl; exact rfl; with_reducible (conv => enter [6, 3]; whnf))
        | (apply wr_len_str; exact rfl; exact rfl)
        | (apply wr_len_slice; exact rfl; exact rfl)
        | (apply wr_store; exact rfl; exact rfl; exact rfl; (first | exact rfl | with_reducible assumption); (first | with_reducible assumption | exact heap_alloc_same _ _ | ((repeat (first | refine (heap_alloc_ne _ _ (by (first | omega | (simp only [World.size_alloc, World.putObj_size, ne_eq]; omega)))).trans ?_ | refine (heap_put_ne _ _ (by (first | omega | (simp only [World.size_alloc, World.putObj_size, ne_eq]; omega)))).trans ?_)); (first | with_reducible assumption | exact heap_alloc_same _ _ | exact World.putObj_heap_same (by (first | omega | (simp only [World.size_alloc, World.putObj_size, ne_eq]; omega)))))); exact rfl)
        | (apply wr_box; exact rfl; exact rfl)
        | (apply wr_alloc; exact rfl)
        | (apply wr_cat; exact rfl; exact rfl; exact rfl; (first | omega | (simp only [List.length_append]; omega)))
        | (apply wr_streqc; exact rfl; exact rfl; exact rfl; (first | exact decide_eq_true (by with_reducible assumption) | exact decide_eq_false (by with_reducible assumption) | exact decide_eq_true rfl | exact rfl))
        | (apply wr_strnec; exact rfl; exact rfl; exact rfl; (first | exact decide_eq_true (by with_reducible assumption) | exact decide_eq_false (by with_reducible assumption) | exact decide_eq_true rfl | exact rfl); with_reducible (conv => enter [6, 3]; whnf))
        | (apply wr_bits; exact rfl; (focus (simp; done)); exact rfl; exact rfl; assumption)
        | (apply wr_eqnil_t; exact rfl; exact rfl)
        | (apply wr_eqnil_f; exact rfl; exact rfl)
        | (apply wr_nenil_f; exact rfl; exact rfl)
        | (apply wr_nenil_t; exact rfl; exact rfl)
        | (apply wc_true; exact rfl)
        | (apply wc_false; exact rfl)
        | apply wc_skip
        | apply wc_block
        | (apply wc_exit; try simp only [thenE, inBlockE, bodyQ, ↓reduceIte, Nat.reduceEqDiff])
        | (apply wc_ret; try simp only [thenE, inBlockE, bodyQ])
        | (apply wr_nil; try simp only [thenE, inBlockE, bodyQ])
        | (apply wr_skip; exact rfl))
  refine wr_cat (a := [UInt8.ofNat x]) (b := b) rfl rfl rfl (by simp; omega) ?_
  repeat (first
        | (apply wr_move; exact rfl; with_reducible (conv => enter [6, 3]; whnf))
        | (apply wr_assign; exact rfl; with_reducible (conv => enter [6, 3]; whnf))
        | apply wr_end
        | apply wc_seq
        | apply wc_region
        | (apply wr_fieldAddr; exact rfl; exact rfl)
        | (apply wr_load; exact rfl; exact rfl; exact rfl; (first | with_reducible assumption | exact heap_alloc_same _ _ | ((repeat (first | refine (heap_alloc_ne _ _ (by (first | omega | (simp only [World.size_alloc, World.putObj_size, ne_eq]; omega)))).trans ?_ | refine (heap_put_ne _ _ (by (first | omega | (simp only [World.size_alloc, World.putObj_size, ne_eq]; omega)))).trans ?_)); (first | with_reducible assumption | exact heap_alloc_same _ _ | exact World.putObj_heap_same (by (first | omega | (simp only [World.size_alloc, World.putObj_size, ne_eq]; omega)))))); exact rfl; conv => enter [6, 3]; whnf)
        | (apply wr_cmp; exact rfl; exact rfl; exact rfl; (first | exact cmp_lt_t (by omega) | exact cmp_lt_f (by omega) | exact cmp_eq_t (by omega) | exact cmp_eq_f (by omega) | exact cmp_ne_t (by omega) | exact cmp_ne_f (by omega) | exact cmp_le_t (by omega) | exact cmp_le_f (by omega) | exact cmp_gt_t (by omega) | exact cmp_gt_f (by omega) | exact cmp_ge_t (by omega) | exact cmp_ge_f (by omega) | exact cmp_lt _ _ | exact cmp_le _ _ | exact cmp_gt _ _ | exact cmp_ge _ _ | exact cmp_eq _ _ | exact cmp_ne _ _))
        | (apply wr_pick (t := true); exact rfl; exact rfl; with_reducible (conv => enter [6, 3]; whnf))
        | (apply wr_pick (t := false); exact rfl; exact rfl; with_reducible (conv => enter [6, 3]; whnf))
        | (apply wr_add; exact rfl; exact rfl; exact rfl; (first | exact w_i64 (by omega) | exact w_u64 (by omega) | exact w_u8 (by omega) | exact w_u16 (by omega) | exact w_i32 (by omega) | exact w_u32 (by omega) | with_reducible assumption | rfl))
        | (apply wr_sub; exact rfl; exact rfl; exact rfl; (first | exact w_i64 (by omega) | exact w_u64 (by omega) | exact w_u8 (by omega) | exact w_u16 (by omega) | exact w_i32 (by omega) | exact w_u32 (by omega) | with_reducible assumption | rfl))
        | (apply wr_mul; exact rfl; exact rfl; exact rfl; (first | exact w_i64 (by omega) | exact w_u64 (by omega) | exact w_u8 (by omega) | exact w_u16 (by omega) | exact w_i32 (by omega) | exact w_u32 (by omega) | with_reducible assumption | rfl))
        | (apply wr_conv; exact rfl; exact rfl; (first | exact w_i64 (by omega) | exact w_u64 (by omega) | exact w_u8 (by omega) | exact w_u16 (by omega) | exact w_i32 (by omega) | exact w_u32 (by omega) | with_reducible assumption | rfl))
        | (apply wr_not; exact rfl; exact rfl)
        | (apply wr_extract; exact rfl; exact rfl; exact rfl; with_reducible (conv => enter [6, 3]; whnf))
        | (apply wr_len_str; exact rfl; exact rfl)
        | (apply wr_len_slice; exact rfl; exact rfl)
        | (apply wr_store; exact rfl; exact rfl; exact rfl; (first | exact rfl | with_reducible assumption); (first | with_reducible assumption | exact heap_alloc_same _ _ | ((repeat (first | refine (heap_alloc_ne _ _ (by (first | omega | (simp only [World.size_alloc, World.putObj_size, ne_eq]; omega)))).trans ?_ | refine (heap_put_ne _ _ (by (first | omega | (simp only [World.size_alloc, World.putObj_size, ne_eq]; omega)))).trans ?_)); (first | with_reducible assumption | exact heap_alloc_same _ _ | exact World.putObj_heap_same (by (first | omega | (simp only [World.size_alloc, World.putObj_size, ne_eq]; omega)))))); exact rfl)
        | (apply wr_box; exact rfl; exact rfl)
        | (apply wr_alloc; exact rfl)
        | (apply wr_cat; exact rfl; exact rfl; exact rfl; (first | omega | (simp only [List.length_append]; omega)))
        | (apply wr_streqc; exact rfl; exact rfl; exact rfl; (first | exact decide_eq_true (by with_reducible assumption) | exact decide_eq_false (by with_reducible assumption) | exact decide_eq_true rfl | exact rfl))
        | (apply wr_strnec; exact rfl; exact rfl; exact rfl; (first | exact decide_eq_true (by with_reducible assumption) | exact decide_eq_false (by with_reducible assumption) | exact decide_eq_true rfl | exact rfl); with_reducible (conv => enter [6, 3]; whnf))
        | (apply wr_bits; exact rfl; (focus (simp; done)); exact rfl; exact rfl; assumption)
        | (apply wr_eqnil_t; exact rfl; exact rfl)
        | (apply wr_eqnil_f; exact rfl; exact rfl)
        | (apply wr_nenil_f; exact rfl; exact rfl)
        | (apply wr_nenil_t; exact rfl; exact rfl)
        | (apply wc_true; exact rfl)
        | (apply wc_false; exact rfl)
        | apply wc_skip
        | apply wc_block
        | (apply wc_exit; try simp only [thenE, inBlockE, bodyQ, ↓reduceIte, Nat.reduceEqDiff])
        | (apply wc_ret; try simp only [thenE, inBlockE, bodyQ])
        | (apply wr_nil; try simp only [thenE, inBlockE, bodyQ])
        | (apply wr_skip; exact rfl))
  refine wr_call (vs := [S (UInt8.ofNat x :: b)]) rfl (parse_ca (UInt8.ofNat x :: b) (by simp; omega) (hg1.keep ((Keeps.refl NoB w1).alloc _) (fun i hi h => h))) rfl ?_
  rintro v w6 ⟨hv, hk6⟩
  obtain ⟨sl, rfl, hsl⟩ := parseR_get hv
  clear hv
  have hkk := hk1.trans (((Keeps.refl NoB w1).alloc _).trans hk6)
  clear hk6 hk1 hn' hx' hmin
  obtain ⟨al, cl, rfl, hcl, hal⟩ := hsl.shape
  have hpk := parse_kind hx128 hx8 b
  rw [hxk, hxn] at hpk
  clear hsl
  rcases hpk with ⟨hk1, h⟩ | ⟨hk1, h⟩ | ⟨hk1, h⟩ | ⟨h0, h1, h2, h5, hp⟩
  · rcases h with ⟨hbl8, hp⟩ | ⟨hbl8, hp⟩ | ⟨hbl8, l, hp⟩
    · rw [hp] at hal ⊢
      repeat (first
            | (apply wr_move; exact rfl; with_reducible (conv => enter [6, 3]; whnf))
            | (apply wr_assign; exact rfl; with_reducible (conv => enter [6, 3]; whnf))
            | apply wr_end
            | apply wc_seq
            | apply wc_region
            | (apply wr_fieldAddr; exact rfl; exact rfl)
            | (apply wr_load; exact rfl; exact rfl; exact rfl; (first | with_reducible assumption | exact heap_alloc_same _ _ | ((repeat (first | refine (heap_alloc_ne _ _ (by (first | omega | (simp only [World.size_alloc, World.putObj_size, ne_eq]; omega)))).trans ?_ | refine (heap_put_ne _ _ (by (first | omega | (simp only [World.size_alloc, World.putObj_size, ne_eq]; omega)))).trans ?_)); (first | with_reducible assumption | exact heap_alloc_same _ _ | exact World.putObj_heap_same (by (first | omega | (simp only [World.size_alloc, World.putObj_size, ne_eq]; omega)))))); exact rfl; conv => enter [6, 3]; whnf)
            | (apply wr_cmp; exact rfl; exact rfl; exact rfl; (first | exact cmp_lt_t (by omega) | exact cmp_lt_f (by omega) | exact cmp_eq_t (by omega) | exact cmp_eq_f (by omega) | exact cmp_ne_t (by omega) | exact cmp_ne_f (by omega) | exact cmp_le_t (by omega) | exact cmp_le_f (by omega) | exact cmp_gt_t (by omega) | exact cmp_gt_f (by omega) | exact cmp_ge_t (by omega) | exact cmp_ge_f (by omega) | exact cmp_lt _ _ | exact cmp_le _ _ | exact cmp_gt _ _ | exact cmp_ge _ _ | exact cmp_eq _ _ | exact cmp_ne _ _))
            | (apply wr_pick (t := true); exact rfl; exact rfl; with_reducible (conv => enter [6, 3]; whnf))
            | (apply wr_pick (t := false); exact rfl; exact rfl; with_reducible (conv => enter [6, 3]; whnf))
            | (apply wr_add; exact rfl; exact rfl; exact rfl; (first | exact w_i64 (by omega) | exact w_u64 (by omega) | exact w_u8 (by omega) | exact w_u16 (by omega) | exact w_i32 (by omega) | exact w_u32 (by omega) | with_reducible assumption | rfl))
            | (apply wr_sub; exact rfl; exact rfl; exact rfl; (first | exact w_i64 (by omega) | exact w_u64 (by omega) | exact w_u8 (by omega) | exact w_u16 (by omega) | exact w_i32 (by omega) | exact w_u32 (by omega) | with_reducible assumption | rfl))
            | (apply wr_mul; exact rfl; exact rfl; exact rfl; (first | exact w_i64 (by omega) | exact w_u64 (by omega) | exact w_u8 (by omega) | exact w_u16 (by omega) | exact w_i32 (by omega) | exact w_u32 (by omega) | with_reducible assumption | rfl))
            | (apply wr_conv; exact rfl; exact rfl; (first | exact w_i64 (by omega) | exact w_u64 (by omega) | exact w_u8 (by omega) | exact w_u16 (by omega) | exact w_i32 (by omega) | exact w_u32 (by omega) | with_reducible assumption | rfl))
            | (apply wr_not; exact rfl; exact rfl)
            | (apply wr_extract; exact rfl; exact rfl; exact rfl; with_reducible (conv => enter [6, 3]; whnf))
            | (apply wr_len_str; exact rfl; exact rfl)
            | (apply wr_len_slice; exact rfl; exact rfl)
            | (apply wr_store; exact rfl; exact rfl; exact rfl; (first | exact rfl | with_reducible assumption); (first | with_reducible assumption | exact heap_alloc_same _ _ | ((repeat (first | refine (heap_alloc_ne _ _ (by (first | omega | (simp only [World.size_alloc, World.putObj_size, ne_eq]; omega)))).trans ?_ | refine (heap_put_ne _ _ (by (first | omega | (simp only [World.size_alloc, World.putObj_size, ne_eq]; omega)))).trans ?_)); (first | with_reducible assumption | exact heap_alloc_same _ _ | exact World.putObj_heap_same (by (first | omega | (simp only [World.size_alloc, World.putObj_size, ne_eq]; omega)))))); exact rfl)
            | (apply wr_box; exact rfl; exact rfl)
            | (apply wr_alloc; exact rfl)
            | (apply wr_cat; exact rfl; exact rfl; exact rfl; (first | omega | (simp only [List.length_append]; omega)))
            | (apply wr_streqc; exact rfl; exact rfl; exact rfl; (first | exact decide_eq_true (by with_reducible assumption) | exact decide_eq_false (by with_reducible assumption) | exact decide_eq_true rfl | exact rfl))
            | (apply wr_strnec; exact rfl; exact rfl; exact rfl; (first | exact decide_eq_true (by with_reducible assumption) | exact decide_eq_false (by with_reducible assumption) | exact decide_eq_true rfl | exact rfl); with_reducible (conv => enter [6, 3]; whnf))
            | (apply wr_bits; exact rfl; (focus (simp; done)); exact rfl; exact rfl; assumption)
            | (apply wr_eqnil_t; exact rfl; exact rfl)
            | (apply wr_eqnil_f; exact rfl; exact rfl)
            | (apply wr_nenil_f; exact rfl; exact rfl)
            | (apply wr_nenil_t; exact rfl; exact rfl)
            | (apply wc_true; exact rfl)
            | (apply wc_false; exact rfl)
            | apply wc_skip
            | apply wc_block
            | (apply wc_exit; try simp only [thenE, inBlockE, bodyQ, ↓reduceIte, Nat.reduceEqDiff])
            | (apply wc_ret; try simp only [thenE, inBlockE, bodyQ])
            | (apply wr_nil; try simp only [thenE, inBlockE, bodyQ])
            | (apply wr_skip; exact rfl))
      refine wc_drawS (l := _) (S := fun w' => w' = w6.drew) (by kernel_rfl) (by kernel_rfl) rfl ?_
      repeat
        apply ch_step
        focus
          intro w' hS
          subst hS
          repeat (first
                | (apply wr_move; exact rfl; with_reducible (conv => enter [6, 3]; whnf))
                | (apply wr_assign; exact rfl; with_reducible (conv => enter [6, 3]; whnf))
                | apply wr_end
                | apply wc_seq
                | apply wc_region
                | (apply wr_fieldAddr; exact rfl; exact rfl)
                | (apply wr_load; exact rfl; exact rfl; exact rfl; (first | with_reducible assumption | exact heap_alloc_same _ _ | ((repeat (first | refine (heap_alloc_ne _ _ (by (first | omega | (simp only [World.size_alloc, World.putObj_size, ne_eq]; omega)))).trans ?_ | refine (heap_put_ne _ _ (by (first | omega | (simp only [World.size_alloc, World.putObj_size, ne_eq]; omega)))).trans ?_)); (first | with_reducible assumption | exact heap_alloc_same _ _ | exact World.putObj_heap_same (by (first | omega | (simp only [World.size_alloc, World.putObj_size, ne_eq]; omega)))))); exact rfl; conv => enter [6, 3]; whnf)
                | (apply wr_cmp; exact rfl; exact rfl; exact rfl; (first | exact cmp_lt_t (by omega) | exact cmp_lt_f (by omega) | exact cmp_eq_t (by omega) | exact cmp_eq_f (by omega) | exact cmp_ne_t (by omega) | exact cmp_ne_f (by omega) | exact cmp_le_t (by omega) | exact cmp_le_f (by omega) | exact cmp_gt_t (by omega) | exact cmp_gt_f (by omega) | exact cmp_ge_t (by omega) | exact cmp_ge_f (by omega) | exact cmp_lt _ _ | exact cmp_le _ _ | exact cmp_gt _ _ | exact cmp_ge _ _ | exact cmp_eq _ _ | exact cmp_ne _ _))
                | (apply wr_pick (t := true); exact rfl; exact rfl; with_reducible (conv => enter [6, 3]; whnf))
                | (apply wr_pick (t := false); exact rfl; exact rfl; with_reducible (conv => enter [6, 3]; whnf))
                | (apply wr_add; exact rfl; exact rfl; exact rfl; (first | exact w_i64 (by omega) | exact w_u64 (by omega) | exact w_u8 (by omega) | exact w_u16 (by omega) | exact w_i32 (by omega) | exact w_u32 (by omega) | with_reducible assumption | rfl))
                | (apply wr_sub; exact rfl; exact rfl; exact rfl; (first | exact w_i64 (by omega) | exact w_u64 (by omega) | exact w_u8 (by omega) | exact w_u16 (by omega) | exact w_i32 (by omega) | exact w_u32 (by omega) | with_reducible assumption | rfl))
                | (apply wr_mul; exact rfl; exact rfl; exact rfl; (first | exact w_i64 (by omega) | exact w_u64 (by omega) | exact w_u8 (by omega) | exact w_u16 (by omega) | exact w_i32 (by omega) | exact w_u32 (by omega) | with_reducible assumption | rfl))
                | (apply wr_conv; exact rfl; exact rfl; (first | exact w_i64 (by omega) | exact w_u64 (by omega) | exact w_u8 (by omega) | exact w_u16 (by omega) | exact w_i32 (by omega) | exact w_u32 (by omega) | with_reducible assumption | rfl))
                | (apply wr_not; exact rfl; exact rfl)
                | (apply wr_extract; exact rfl; exact rfl; exact rfl; with_reducible (conv => enter [6, 3]; whnf))
                | (apply wr_len_str; exact rfl; exact rfl)
                | (apply wr_len_slice; exact rfl; exact rfl)
                | (apply wr_store; exact rfl; exact rfl; exact rfl; (first | exact rfl | with_reducible assumption); (first | with_reducible assumption | exact heap_alloc_same _ _ | ((repeat (first | refine (heap_alloc_ne _ _ (by (first | omega | (simp only [World.size_alloc, World.putObj_size, ne_eq]; omega)))).trans ?_ | refine (heap_put_ne _ _ (by (first | omega | (simp only [World.size_alloc, World.putObj_size, ne_eq]; omega)))).trans ?_)); (first | with_reducible assumption | exact heap_alloc_same _ _ | exact World.putObj_heap_same (by (first | omega | (simp only [World.size_alloc, World.putObj_size, ne_eq]; omega)))))); exact rfl)
                | (apply wr_box; exact rfl; exact rfl)
                | (apply wr_alloc; exact rfl)
                | (apply wr_cat; exact rfl; exact rfl; exact rfl; (first | omega | (simp only [List.length_append]; omega)))
                | (apply wr_streqc; exact rfl; exact rfl; exact rfl; (first | exact decide_eq_true (by with_reducible assumption) | exact decide_eq_false (by with_reducible assumption) | exact decide_eq_true rfl | exact rfl))
                | (apply wr_strnec; exact rfl; exact rfl; exact rfl; (first | exact decide_eq_true (by with_reducible assumption) | exact decide_eq_false (by with_reducible assumption) | exact decide_eq_true rfl | exact rfl); with_reducible (conv => enter [6, 3]; whnf))
                | (apply wr_bits; exact rfl; (focus (simp; done)); exact rfl; exact rfl; assumption)
                | (apply wr_eqnil_t; exact rfl; exact rfl)
                | (apply wr_eqnil_f; exact rfl; exact rfl)
                | (apply wr_nenil_f; exact rfl; exact rfl)
                | (apply wr_nenil_t; exact rfl; exact rfl)
                | (apply wc_true; exact rfl)
                | (apply wc_false; exact rfl)
                | apply wc_skip
                | apply wc_block
                | (apply wc_exit; try simp only [thenE, inBlockE, bodyQ, ↓reduceIte, Nat.reduceEqDiff])
                | (apply wc_ret; try simp only [thenE, inBlockE, bodyQ])
                | (apply wr_nil; try simp only [thenE, inBlockE, bodyQ])
                | (apply wr_skip; exact rfl))
          exact ⟨rfl, by trivial⟩
      refine ch_nil ?_
      intro w' hS
      subst hS
      repeat (first
            | (apply wr_move; exact rfl; with_reducible (conv => enter [6, 3]; whnf))
            | (apply wr_assign; exact rfl; with_reducible (conv => enter [6, 3]; whnf))
            | apply wr_end
            | apply wc_seq
            | apply wc_region
            | (apply wr_fieldAddr; exact rfl; exact rfl)
            | (apply wr_load; exact rfl; exact rfl; exact rfl; (first | with_reducible assumption | exact heap_alloc_same _ _ | ((repeat (first | refine (heap_alloc_ne _ _ (by (first | omega | (simp only [World.size_alloc, World.putObj_size, ne_eq]; omega)))).trans ?_ | refine (heap_put_ne _ _ (by (first | omega | (simp only [World.size_alloc, World.putObj_size, ne_eq]; omega)))).trans ?_)); (first | with_reducible assumption | exact heap_alloc_same _ _ | exact World.putObj_heap_same (by (first | omega | (simp only [World.size_alloc, World.putObj_size, ne_eq]; omega)))))); exact rfl; conv => enter [6, 3]; whnf)
            | (apply wr_cmp; exact rfl; exact rfl; exact rfl; (first | exact cmp_lt_t (by omega) | exact cmp_lt_f (by omega) | exact cmp_eq_t (by omega) | exact cmp_eq_f (by omega) | exact cmp_ne_t (by omega) | exact cmp_ne_f (by omega) | exact cmp_le_t (by omega) | exact cmp_le_f (by omega) | exact cmp_gt_t (by omega) | exact cmp_gt_f (by omega) | exact cmp_ge_t (by omega) | exact cmp_ge_f (by omega) | exact cmp_lt _ _ | exact cmp_le _ _ | exact cmp_gt _ _ | exact cmp_ge _ _ | exact cmp_eq _ _ | exact cmp_ne _ _))
            | (apply wr_pick (t := true); exact rfl; exact rfl; with_reducible (conv => enter [6, 3]; whnf))
            | (apply wr_pick (t := false); exact rfl; exact rfl; with_reducible (conv => enter [6, 3]; whnf))
            | (apply wr_add; exact rfl; exact rfl; exact rfl; (first | exact w_i64 (by omega) | exact w_u64 (by omega) | exact w_u8 (by omega) | exact w_u16 (by omega) | exact w_i32 (by omega) | exact w_u32 (by omega) | with_reducible assumption | rfl))
            | (apply wr_sub; exact rfl; exact rfl; exact rfl; (first | exact w_i64 (by omega) | exact w_u64 (by omega) | exact w_u8 (by omega) | exact w_u16 (by omega) | exact w_i32 (by omega) | exact w_u32 (by omega) | with_reducible assumption | rfl))
            | (apply wr_mul; exact rfl; exact rfl; exact rfl; (first | exact w_i64 (by omega) | exact w_u64 (by omega) | exact w_u8 (by omega) | exact w_u16 (by omega) | exact w_i32 (by omega) | exact w_u32 (by omega) | with_reducible assumption | rfl))
            | (apply wr_conv; exact rfl; exact rfl; (first | exact w_i64 (by omega) | exact w_u64 (by omega) | exact w_u8 (by omega) | exact w_u16 (by omega) | exact w_i32 (by omega) | exact w_u32 (by omega) | with_reducible assumption | rfl))
            | (apply wr_not; exact rfl; exact rfl)
            | (apply wr_extract; exact rfl; exact rfl; exact rfl; with_reducible (conv => enter [6, 3]; whnf))
            | (apply wr_len_str; exact rfl; exact rfl)
            | (apply wr_len_slice; exact rfl; exact rfl)
            | (apply wr_store; exact rfl; exact rfl; exact rfl; (first | exact rfl | with_reducible assumption); (first | with_reducible assumption | exact heap_alloc_same _ _ | ((repeat (first | refine (heap_alloc_ne _ _ (by (first | omega | (simp only [World.size_alloc, World.putObj_size, ne_eq]; omega)))).trans ?_ | refine (heap_put_ne _ _ (by (first | omega | (simp only [World.size_alloc, World.putObj_size, ne_eq]; omega)))).trans ?_)); (first | with_reducible assumption | exact heap_alloc_same _ _ | exact World.putObj_heap_same (by (first | omega | (simp only [World.size_alloc, World.putObj_size, ne_eq]; omega)))))); exact rfl)
            | (apply wr_box; exact rfl; exact rfl)
            | (apply wr_alloc; exact rfl)
            | (apply wr_cat; exact rfl; exact rfl; exact rfl; (first | omega | (simp only [List.length_append]; omega)))
            | (apply wr_streqc; exact rfl; exact rfl; exact rfl; (first | exact decide_eq_true (by with_reducible assumption) | exact decide_eq_false (by with_reducible assumption) | exact decide_eq_true rfl | exact rfl))
            | (apply wr_strnec; exact rfl; exact rfl; exact rfl; (first | exact decide_eq_true (by with_reducible assumption) | exact decide_eq_false (by with_reducible assumption) | exact decide_eq_true rfl | exact rfl); with_reducible (conv => enter [6, 3]; whnf))
            | (apply wr_bits; exact rfl; (focus (simp; done)); exact rfl; exact rfl; assumption)
            | (apply wr_eqnil_t; exact rfl; exact rfl)
            | (apply wr_eqnil_f; exact rfl; exact rfl)
            | (apply wr_nenil_f; exact rfl; exact rfl)
            | (apply wr_nenil_t; exact rfl; exact rfl)
            | (apply wc_true; exact rfl)
            | (apply wc_false; exact rfl)
            | apply wc_skip
            | apply wc_block
            | (apply wc_exit; try simp only [thenE, inBlockE, bodyQ, ↓reduceIte, Nat.reduceEqDiff])
            | (apply wc_ret; try simp only [thenE, inBlockE, bodyQ])
            | (apply wr_nil; try simp only [thenE, inBlockE, bodyQ])
            | (apply wr_skip; exact rfl))
      exact leave1 (v := .bool true) rfl rfl ⟨rfl, hkk.drew⟩
    · rw [hp] at hal ⊢
      repeat (first
            | (apply wr_move; exact rfl; with_reducible (conv => enter [6, 3]; whnf))
            | (apply wr_assign; exact rfl; with_reducible (conv => enter [6, 3]; whnf))
            | apply wr_end
            | apply wc_seq
            | apply wc_region
            | (apply wr_fieldAddr; exact rfl; exact rfl)
            | (apply wr_load; exact rfl; exact rfl; exact rfl; (first | with_reducible assumption | exact heap_alloc_same _ _ | ((repeat (first | refine (heap_alloc_ne _ _ (by (first | omega | (simp only [World.size_alloc, World.putObj_size, ne_eq]; omega)))).trans ?_ | refine (heap_put_ne _ _ (by (first | omega | (simp only [World.size_alloc, World.putObj_size, ne_eq]; omega)))).trans ?_)); (first | with_reducible assumption | exact heap_alloc_same _ _ | exact World.putObj_heap_same (by (first | omega | (simp only [World.size_alloc, World.putObj_size, ne_eq]; omega)))))); exact rfl; conv => enter [6, 3]; whnf)
            | (apply wr_cmp; exact rfl; exact rfl; exact rfl; (first | exact cmp_lt_t (by omega) | exact cmp_lt_f (by omega) | exact cmp_eq_t (by omega) | exact cmp_eq_f (by omega) | exact cmp_ne_t (by omega) | exact cmp_ne_f (by omega) | exact cmp_le_t (by omega) | exact cmp_le_f (by omega) | exact cmp_gt_t (by omega) | exact cmp_gt_f (by omega) | exact cmp_ge_t (by omega) | exact cmp_ge_f (by omega) | exact cmp_lt _ _ | exact cmp_le _ _ | exact cmp_gt _ _ | exact cmp_ge _ _ | exact cmp_eq _ _ | exact cmp_ne _ _))
            | (apply wr_pick (t := true); exact rfl; exact rfl; with_reducible (conv => enter [6, 3]; whnf))
            | (apply wr_pick (t := false); exact rfl; exact rfl; with_reducible (conv => enter [6, 3]; whnf))
            | (apply wr_add; exact rfl; exact rfl; exact rfl; (first | exact w_i64 (by omega) | exact w_u64 (by omega) | exact w_u8 (by omega) | exact w_u16 (by omega) | exact w_i32 (by omega) | exact w_u32 (by omega) | with_reducible assumption | rfl))
            | (apply wr_sub; exact rfl; exact rfl; exact rfl; (first | exact w_i64 (by omega) | exact w_u64 (by omega) | exact w_u8 (by omega) | exact w_u16 (by omega) | exact w_i32 (by omega) | exact w_u32 (by omega) | with_reducible assumption | rfl))
            | (apply wr_mul; exact rfl; exact rfl; exact rfl; (first | exact w_i64 (by omega) | exact w_u64 (by omega) | exact w_u8 (by omega) | exact w_u16 (by omega) | exact w_i32 (by omega) | exact w_u32 (by omega) | with_reducible assumption | rfl))
            | (apply wr_conv; exact rfl; exact rfl; (first | exact w_i64 (by omega) | exact w_u64 (by omega) | exact w_u8 (by omega) | exact w_u16 (by omega) | exact w_i32 (by omega) | exact w_u32 (by omega) | with_reducible assumption | rfl))
            | (apply wr_not; exact rfl; exact rfl)
            | (apply wr_extract; exact rfl; exact rfl; exact rfl; with_reducible (conv => enter [6, 3]; whnf))
            | (apply wr_len_str; exact rfl; exact rfl)
            | (apply wr_len_slice; exact rfl; exact rfl)
            | (apply wr_store; exact rfl; exact rfl; exact rfl; (first | exact rfl | with_reducible assumption); (first | with_reducible assumption | exact heap_alloc_same _ _ | ((repeat (first | refine (heap_alloc_ne _ _ (by (first | omega | (simp only [World.size_alloc, World.putObj_size, ne_eq]; omega)))).trans ?_ | refine (heap_put_ne _ _ (by (first | omega | (simp only [World.size_alloc, World.putObj_size, ne_eq]; omega)))).trans ?_)); (first | with_reducible assumption | exact heap_alloc_same _ _ | exact World.putObj_heap_same (by (first | omega | (simp only [World.size_alloc, World.putObj_size, ne_eq]; omega)))))); exact rfl)
            | (apply wr_box; exact rfl; exact rfl)
            | (apply wr_alloc; exact rfl)
            | (apply wr_cat; exact rfl; exact rfl; exact rfl; (first | omega | (simp only [List.length_append]; omega)))
            | (apply wr_streqc; exact rfl; exact rfl; exact rfl; (first | exact decide_eq_true (by with_reducible assumption) | exact decide_eq_false (by with_reducible assumption) | exact decide_eq_true rfl | exact rfl))
            | (apply wr_strnec; exact rfl; exact rfl; exact rfl; (first | exact decide_eq_true (by with_reducible assumption) | exact decide_eq_false (by with_reducible assumption) | exact decide_eq_true rfl | exact rfl); with_reducible (conv => enter [6, 3]; whnf))
            | (apply wr_bits; exact rfl; (focus (simp; done)); exact rfl; exact rfl; assumption)
            | (apply wr_eqnil_t; exact rfl; exact rfl)
            | (apply wr_eqnil_f; exact rfl; exact rfl)
            | (apply wr_nenil_f; exact rfl; exact rfl)
            | (apply wr_nenil_t; exact rfl; exact rfl)
            | (apply wc_true; exact rfl)
            | (apply wc_false; exact rfl)
            | apply wc_skip
            | apply wc_block
            | (apply wc_exit; try simp only [thenE, inBlockE, bodyQ, ↓reduceIte, Nat.reduceEqDiff])
            | (apply wc_ret; try simp only [thenE, inBlockE, bodyQ])
            | (apply wr_nil; try simp only [thenE, inBlockE, bodyQ])
            | (apply wr_skip; exact rfl))
      refine wc_drawS (l := _) (S := fun w' => w' = w6.drew) (by kernel_rfl) (by kernel_rfl) rfl ?_
      repeat
        apply ch_step
        focus
          intro w' hS
          subst hS
          repeat (first
                | (apply wr_move; exact rfl; with_reducible (conv => enter [6, 3]; whnf))
                | (apply wr_assign; exact rfl; with_reducible (conv => enter [6, 3]; whnf))
                | apply wr_end
                | apply wc_seq
                | apply wc_region
                | (apply wr_fieldAddr; exact rfl; exact rfl)
                | (apply wr_load; exact rfl; exact rfl; exact rfl; (first | with_reducible assumption | exact heap_alloc_same _ _ | ((repeat (first | refine (heap_alloc_ne _ _ (by (first | omega | (simp only [World.size_alloc, World.putObj_size, ne_eq]; omega)))).trans ?_ | refine (heap_put_ne _ _ (by (first | omega | (simp only [World.size_alloc, World.putObj_size, ne_eq]; omega)))).trans ?_)); (first | with_reducible assumption | exact heap_alloc_same _ _ | exact World.putObj_heap_same (by (first | omega | (simp only [World.size_alloc, World.putObj_size, ne_eq]; omega)))))); exact rfl; conv => enter [6, 3]; whnf)
                | (apply wr_cmp; exact rfl; exact rfl; exact rfl; (first | exact cmp_lt_t (by omega) | exact cmp_lt_f (by omega) | exact cmp_eq_t (by omega) | exact cmp_eq_f (by omega) | exact cmp_ne_t (by omega) | exact cmp_ne_f (by omega) | exact cmp_le_t (by omega) | exact cmp_le_f (by omega) | exact cmp_gt_t (by omega) | exact cmp_gt_f (by omega) | exact cmp_ge_t (by omega) | exact cmp_ge_f (by omega) | exact cmp_lt _ _ | exact cmp_le _ _ | exact cmp_gt _ _ | exact cmp_ge _ _ | exact cmp_eq _ _ | exact cmp_ne _ _))
                | (apply wr_pick (t := true); exact rfl; exact rfl; with_reducible (conv => enter [6, 3]; whnf))
                | (apply wr_pick (t := false); exact rfl; exact rfl; with_reducible (conv => enter [6, 3]; whnf))
                | (apply wr_add; exact rfl; exact rfl; exact rfl; (first | exact w_i64 (by omega) | exact w_u64 (by omega) | exact w_u8 (by omega) | exact w_u16 (by omega) | exact w_i32 (by omega) | exact w_u32 (by omega) | with_reducible assumption | rfl))
                | (apply wr_sub; exact rfl; exact rfl; exact rfl; (first | exact w_i64 (by omega) | exact w_u64 (by omega) | exact w_u8 (by omega) | exact w_u16 (by omega) | exact w_i32 (by omega) | exact w_u32 (by omega) | with_reducible assumption | rfl))
                | (apply wr_mul; exact rfl; exact rfl; exact rfl; (first | exact w_i64 (by omega) | exact w_u64 (by omega) | exact w_u8 (by omega) | exact w_u16 (by omega) | exact w_i32 (by omega) | exact w_u32 (by omega) | with_reducible assumption | rfl))
                | (apply wr_conv; exact rfl; exact rfl; (first | exact w_i64 (by omega) | exact w_u64 (by omega) | exact w_u8 (by omega) | exact w_u16 (by omega) | exact w_i32 (by omega) | exact w_u32 (by omega) | with_reducible assumption | rfl))
                | (apply wr_not; exact rfl; exact rfl)
                | (apply wr_extract; exact rfl; exact rfl; exact rfl; with_reducible (conv => enter [6, 3]; whnf))
                | (apply wr_len_str; exact rfl; exact rfl)
                | (apply wr_len_slice; exact rfl; exact rfl)
                | (apply wr_store; exact rfl; exact rfl; exact rfl; (first | exact rfl | with_reducible assumption); (first | with_reducible assumption | exact heap_alloc_same _ _ | ((repeat (first | refine (heap_alloc_ne _ _ (by (first | omega | (simp only [World.size_alloc, World.putObj_size, ne_eq]; omega)))).trans ?_ | refine (heap_put_ne _ _ (by (first | omega | (simp only [World.size_alloc, World.putObj_size, ne_eq]; omega)))).trans ?_)); (first | with_reducible assumption | exact heap_alloc_same _ _ | exact World.putObj_heap_same (by (first | omega | (simp only [World.size_alloc, World.putObj_size, ne_eq]; omega)))))); exact rfl)
                | (apply wr_box; exact rfl; exact rfl)
                | (apply wr_alloc; exact rfl)
                | (apply wr_cat; exact rfl; exact rfl; exact rfl; (first | omega | (simp only [List.length_append]; omega)))
                | (apply wr_streqc; exact rfl; exact rfl; exact rfl; (first | exact decide_eq_true (by with_reducible assumption) | exact decide_eq_false (by with_reducible assumption) | exact decide_eq_true rfl | exact rfl))
                | (apply wr_strnec; exact rfl; exact rfl; exact rfl; (first | exact decide_eq_true (by with_reducible assumption) | exact decide_eq_false (by with_reducible assumption) | exact decide_eq_true rfl | exact rfl); with_reducible (conv => enter [6, 3]; whnf))
                | (apply wr_bits; exact rfl; (focus (simp; done)); exact rfl; exact rfl; assumption)
                | (apply wr_eqnil_t; exact rfl; exact rfl)
                | (apply wr_eqnil_f; exact rfl; exact rfl)
                | (apply wr_nenil_f; exact rfl; exact rfl)
                | (apply wr_nenil_t; exact rfl; exact rfl)
                | (apply wc_true; exact rfl)
                | (apply wc_false; exact rfl)
                | apply wc_skip
                | apply wc_block
                | (apply wc_exit; try simp only [thenE, inBlockE, bodyQ, ↓reduceIte, Nat.reduceEqDiff])
                | (apply wc_ret; try simp only [thenE, inBlockE, bodyQ])
                | (apply wr_nil; try simp only [thenE, inBlockE, bodyQ])
                | (apply wr_skip; exact rfl))
          exact ⟨rfl, by trivial⟩
      refine ch_nil ?_
      intro w' hS
      subst hS
      repeat (first
            | (apply wr_move; exact rfl; with_reducible (conv => enter [6, 3]; whnf))
            | (apply wr_assign; exact rfl; with_reducible (conv => enter [6, 3]; whnf))
            | apply wr_end
            | apply wc_seq
            | apply wc_region
            | (apply wr_fieldAddr; exact rfl; exact rfl)
            | (apply wr_load; exact rfl; exact rfl; exact rfl; (first | with_reducible assumption | exact heap_alloc_same _ _ | ((repeat (first | refine (heap_alloc_ne _ _ (by (first | omega | (simp only [World.size_alloc, World.putObj_size, ne_eq]; omega)))).trans ?_ | refine (heap_put_ne _ _ (by (first | omega | (simp only [World.size_alloc, World.putObj_size, ne_eq]; omega)))).trans ?_)); (first | with_reducible assumption | exact heap_alloc_same _ _ | exact World.putObj_heap_same (by (first | omega | (simp only [World.size_alloc, World.putObj_size, ne_eq]; omega)))))); exact rfl; conv => enter [6, 3]; whnf)
            | (apply wr_cmp; exact rfl; exact rfl; exact rfl; (first | exact cmp_lt_t (by omega) | exact cmp_lt_f (by omega) | exact cmp_eq_t (by omega) | exact cmp_eq_f (by omega) | exact cmp_ne_t (by omega) | exact cmp_ne_f (by omega) | exact cmp_le_t (by omega) | exact cmp_le_f (by omega) | exact cmp_gt_t (by omega) | exact cmp_gt_f (by omega) | exact cmp_ge_t (by omega) | exact cmp_ge_f (by omega) | exact cmp_lt _ _ | exact cmp_le _ _ | exact cmp_gt _ _ | exact cmp_ge _ _ | exact cmp_eq _ _ | exact cmp_ne _ _))
            | (apply wr_pick (t := true); exact rfl; exact rfl; with_reducible (conv => enter [6, 3]; whnf))
            | (apply wr_pick (t := false); exact rfl; exact rfl; with_reducible (conv => enter [6, 3]; whnf))
            | (apply wr_add; exact rfl; exact rfl; exact rfl; (first | exact w_i64 (by omega) | exact w_u64 (by omega) | exact w_u8 (by omega) | exact w_u16 (by omega) | exact w_i32 (by omega) | exact w_u32 (by omega) | with_reducible assumption | rfl))
            | (apply wr_sub; exact rfl; exact rfl; exact rfl; (first | exact w_i64 (by omega) | exact w_u64 (by omega) | exact w_u8 (by omega) | exact w_u16 (by omega) | exact w_i32 (by omega) | exact w_u32 (by omega) | with_reducible assumption | rfl))
            | (apply wr_mul; exact rfl; exact rfl; exact rfl; (first | exact w_i64 (by omega) | exact w_u64 (by omega) | exact w_u8 (by omega) | exact w_u16 (by omega) | exact w_i32 (by omega) | exact w_u32 (by omega) | with_reducible assumption | rfl))
            | (apply wr_conv; exact rfl; exact rfl; (first | exact w_i64 (by omega) | exact w_u64 (by omega) | exact w_u8 (by omega) | exact w_u16 (by omega) | exact w_i32 (by omega) | exact w_u32 (by omega) | with_reducible assumption | rfl))
            | (apply wr_not; exact rfl; exact rfl)
            | (apply wr_extract; exact rfl; exact rfl; exact rfl; with_reducible (conv => enter [6, 3]; whnf))
            | (apply wr_len_str; exact rfl; exact rfl)
            | (apply wr_len_slice; exact rfl; exact rfl)
            | (apply wr_store; exact rfl; exact rfl; exact rfl; (first | exact rfl | with_reducible assumption); (first | with_reducible assumption | exact heap_alloc_same _ _ | ((repeat (first | refine (heap_alloc_ne _ _ (by (first | omega | (simp only [World.size_alloc, World.putObj_size, ne_eq]; omega)))).trans ?_ | refine (heap_put_ne _ _ (by (first | omega | (simp only [World.size_alloc, World.putObj_size, ne_eq]; omega)))).trans ?_)); (first | with_reducible assumption | exact heap_alloc_same _ _ | exact World.putObj_heap_same (by (first | omega | (simp only [World.size_alloc, World.putObj_size, ne_eq]; omega)))))); exact rfl)
            | (apply wr_box; exact rfl; exact rfl)
            | (apply wr_alloc; exact rfl)
            | (apply wr_cat; exact rfl; exact rfl; exact rfl; (first | omega | (simp only [List.length_append]; omega)))
            | (apply wr_streqc; exact rfl; exact rfl; exact rfl; (first | exact decide_eq_true (by with_reducible assumption) | exact decide_eq_false (by with_reducible assumption) | exact decide_eq_true rfl | exact rfl))
            | (apply wr_strnec; exact rfl; exact rfl; exact rfl; (first | exact decide_eq_true (by with_reducible assumption) | exact decide_eq_false (by with_reducible assumption) | exact decide_eq_true rfl | exact rfl); with_reducible (conv => enter [6, 3]; whnf))
            | (apply wr_bits; exact rfl; (focus (simp; done)); exact rfl; exact rfl; assumption)
            | (apply wr_eqnil_t; exact rfl; exact rfl)
            | (apply wr_eqnil_f; exact rfl; exact rfl)
            | (apply wr_nenil_f; exact rfl; exact rfl)
            | (apply wr_nenil_t; exact rfl; exact rfl)
            | (apply wc_true; exact rfl)
            | (apply wc_false; exact rfl)
            | apply wc_skip
            | apply wc_block
            | (apply wc_exit; try simp only [thenE, inBlockE, bodyQ, ↓reduceIte, Nat.reduceEqDiff])
            | (apply wc_ret; try simp only [thenE, inBlockE, bodyQ])
            | (apply wr_nil; try simp only [thenE, inBlockE, bodyQ])
            | (apply wr_skip; exact rfl))
      exact leave1 (v := .bool true) rfl rfl ⟨rfl, hkk.drew⟩
    · rw [hp] at hal ⊢
      simp only [Option.getD_some, Option.isSome_some] at hal ⊢
      obtain ⟨b6, o6, rfl, cur6, e6, fr6, hb6, hr6⟩ := hal (by simp)
      have h1l : 1 ≤ ((⟨(n : Nat), 1, 0, b.take 8⟩ : WF) :: l).length := by simp
      have hor : b.length = 8 ∨ 8 < b.length := by omega
      rcases hor with h8' | h8'
      all_goals
        repeat (first
              | (apply wr_move; exact rfl; with_reducible (conv => enter [6, 3]; whnf))
              | (apply wr_assign; exact rfl; with_reducible (conv => enter [6, 3]; whnf))
              | apply wr_end
              | apply wc_seq
              | apply wc_region
              | (apply wr_fieldAddr; exact rfl; exact rfl)
              | (apply wr_load; exact rfl; exact rfl; exact rfl; (first | with_reducible assumption | exact heap_alloc_same _ _ | ((repeat (first | refine (heap_alloc_ne _ _ (by (first | omega | (simp only [World.size_alloc, World.putObj_size, ne_eq]; omega)))).trans ?_ | refine (heap_put_ne _ _ (by (first | omega | (simp only [World.size_alloc, World.putObj_size, ne_eq]; omega)))).trans ?_)); (first | with_reducible assumption | exact heap_alloc_same _ _ | exact World.putObj_heap_same (by (first | omega | (simp only [World.size_alloc, World.putObj_size, ne_eq]; omega)))))); exact rfl; conv => enter [6, 3]; whnf)
              | (apply wr_cmp; exact rfl; exact rfl; exact rfl; (first | exact cmp_lt_t (by omega) | exact cmp_lt_f (by omega) | exact cmp_eq_t (by omega) | exact cmp_eq_f (by omega) | exact cmp_ne_t (by omega) | exact cmp_ne_f (by omega) | exact cmp_le_t (by omega) | exact cmp_le_f (by omega) | exact cmp_gt_t (by omega) | exact cmp_gt_f (by omega) | exact cmp_ge_t (by omega) | exact cmp_ge_f (by omega) | exact cmp_lt _ _ | exact cmp_le _ _ | exact cmp_gt _ _ | exact cmp_ge _ _ | exact cmp_eq _ _ | exact cmp_ne _ _))
              | (apply wr_pick (t := true); exact rfl; exact rfl; with_reducible (conv => enter [6, 3]; whnf))
              | (apply wr_pick (t := false); exact rfl; exact rfl; with_reducible (conv => enter [6, 3]; whnf))
              | (apply wr_add; exact rfl; exact rfl; exact rfl; (first | exact w_i64 (by omega) | exact w_u64 (by omega) | exact w_u8 (by omega) | exact w_u16 (by omega) | exact w_i32 (by omega) | exact w_u32 (by omega) | with_reducible assumption | rfl))
              | (apply wr_sub; exact rfl; exact rfl; exact rfl; (first | exact w_i64 (by omega) | exact w_u64 (by omega) | exact w_u8 (by omega) | exact w_u16 (by omega) | exact w_i32 (by omega) | exact w_u32 (by omega) | with_reducible assumption | rfl))
              | (apply wr_mul; exact rfl; exact rfl; exact rfl; (first | exact w_i64 (by omega) | exact w_u64 (by omega) | exact w_u8 (by omega) | exact w_u16 (by omega) | exact w_i32 (by omega) | exact w_u32 (by omega) | with_reducible assumption | rfl))
              | (apply wr_conv; exact rfl; exact rfl; (first | exact w_i64 (by omega) | exact w_u64 (by omega) | exact w_u8 (by omega) | exact w_u16 (by omega) | exact w_i32 (by omega) | exact w_u32 (by omega) | with_reducible assumption | rfl))
              | (apply wr_not; exact rfl; exact rfl)
              | (apply wr_extract; exact rfl; exact rfl; exact rfl; with_reducible (conv => enter [6, 3]; whnf))
              | (apply wr_len_str; exact rfl; exact rfl)
              | (apply wr_len_slice; exact rfl; exact rfl)
              | (apply wr_store; exact rfl; exact rfl; exact rfl; (first | exact rfl | with_reducible assumption); (first | with_reducible assumption | exact heap_alloc_same _ _ | ((repeat (first | refine (heap_alloc_ne _ _ (by (first | omega | (simp only [World.size_alloc, World.putObj_size, ne_eq]; omega)))).trans ?_ | refine (heap_put_ne _ _ (by (first | omega | (simp only [World.size_alloc, World.putObj_size, ne_eq]; omega)))).trans ?_)); (first | with_reducible assumption | exact heap_alloc_same _ _ | exact World.putObj_heap_same (by (first | omega | (simp only [World.size_alloc, World.putObj_size, ne_eq]; omega)))))); exact rfl)
              | (apply wr_box; exact rfl; exact rfl)
              | (apply wr_alloc; exact rfl)
              | (apply wr_cat; exact rfl; exact rfl; exact rfl; (first | omega | (simp only [List.length_append]; omega)))
              | (apply wr_streqc; exact rfl; exact rfl; exact rfl; (first | exact decide_eq_true (by with_reducible assumption) | exact decide_eq_false (by with_reducible assumption) | exact decide_eq_true rfl | exact rfl))
              | (apply wr_strnec; exact rfl; exact rfl; exact rfl; (first | exact decide_eq_true (by with_reducible assumption) | exact decide_eq_false (by with_reducible assumption) | exact decide_eq_true rfl | exact rfl); with_reducible (conv => enter [6, 3]; whnf))
              | (apply wr_bits; exact rfl; (focus (simp; done)); exact rfl; exact rfl; assumption)
              | (apply wr_eqnil_t; exact rfl; exact rfl)
              | (apply wr_eqnil_f; exact rfl; exact rfl)
              | (apply wr_nenil_f; exact rfl; exact rfl)
              | (apply wr_nenil_t; exact rfl; exact rfl)
              | (apply wc_true; exact rfl)
              | (apply wc_false; exact rfl)
              | apply wc_skip
              | apply wc_block
              | (apply wc_exit; try simp only [thenE, inBlockE, bodyQ, ↓reduceIte, Nat.reduceEqDiff])
              | (apply wc_ret; try simp only [thenE, inBlockE, bodyQ])
              | (apply wr_nil; try simp only [thenE, inBlockE, bodyQ])
              | (apply wr_skip; exact rfl))
        refine wc_drawS (l := _) (S := fun w' => w' = w6.drew) (by kernel_rfl) (by kernel_rfl) rfl ?_
        repeat
          apply ch_step
          focus
            intro w' hS
            subst hS
            repeat (first
                  | (apply wr_move; exact rfl; with_reducible (conv => enter [6, 3]; whnf))
                  | (apply wr_assign; exact rfl; with_reducible (conv => enter [6, 3]; whnf))
                  | apply wr_end
                  | apply wc_seq
                  | apply wc_region
                  | (apply wr_fieldAddr; exact rfl; exact rfl)
                  | (apply wr_load; exact rfl; exact rfl; exact rfl; (first | with_reducible assumption | exact heap_alloc_same _ _ | ((repeat (first | refine (heap_alloc_ne _ _ (by (first | omega | (simp only [World.size_alloc, World.putObj_size, ne_eq]; omega)))).trans ?_ | refine (heap_put_ne _ _ (by (first | omega | (simp only [World.size_alloc, World.putObj_size, ne_eq]; omega)))).trans ?_)); (first | with_reducible assumption | exact heap_alloc_same _ _ | exact World.putObj_heap_same (by (first | omega | (simp only [World.size_alloc, World.putObj_size, ne_eq]; omega)))))); exact rfl; conv => enter [6, 3]; whnf)
                  | (apply wr_cmp; exact rfl; exact rfl; exact rfl; (first | exact cmp_lt_t (by omega) | exact cmp_lt_f (by omega) | exact cmp_eq_t (by omega) | exact cmp_eq_f (by omega) | exact cmp_ne_t (by omega) | exact cmp_ne_f (by omega) | exact cmp_le_t (by omega) | exact cmp_le_f (by omega) | exact cmp_gt_t (by omega) | exact cmp_gt_f (by omega) | exact cmp_ge_t (by omega) | exact cmp_ge_f (by omega) | exact cmp_lt _ _ | exact cmp_le _ _ | exact cmp_gt _ _ | exact cmp_ge _ _ | exact cmp_eq _ _ | exact cmp_ne _ _))
                  | (apply wr_pick (t := true); exact rfl; exact rfl; with_reducible (conv => enter [6, 3]; whnf))
                  | (apply wr_pick (t := false); exact rfl; exact rfl; with_reducible (conv => enter [6, 3]; whnf))
                  | (apply wr_add; exact rfl; exact rfl; exact rfl; (first | exact w_i64 (by omega) | exact w_u64 (by omega) | exact w_u8 (by omega) | exact w_u16 (by omega) | exact w_i32 (by omega) | exact w_u32 (by omega) | with_reducible assumption | rfl))
                  | (apply wr_sub; exact rfl; exact rfl; exact rfl; (first | exact w_i64 (by omega) | exact w_u64 (by omega) | exact w_u8 (by omega) | exact w_u16 (by omega) | exact w_i32 (by omega) | exact w_u32 (by omega) | with_reducible assumption | rfl))
                  | (apply wr_mul; exact rfl; exact rfl; exact rfl; (first | exact w_i64 (by omega) | exact w_u64 (by omega) | exact w_u8 (by omega) | exact w_u16 (by omega) | exact w_i32 (by omega) | exact w_u32 (by omega) | with_reducible assumption | rfl))
                  | (apply wr_conv; exact rfl; exact rfl; (first | exact w_i64 (by omega) | exact w_u64 (by omega) | exact w_u8 (by omega) | exact w_u16 (by omega) | exact w_i32 (by omega) | exact w_u32 (by omega) | with_reducible assumption | rfl))
                  | (apply wr_not; exact rfl; exact rfl)
                  | (apply wr_extract; exact rfl; exact rfl; exact rfl; with_reducible (conv => enter [6, 3]; whnf))
                  | (apply wr_len_str; exact rfl; exact rfl)
                  | (apply wr_len_slice; exact rfl; exact rfl)
                  | (apply wr_store; exact rfl; exact rfl; exact rfl; (first | exact rfl | with_reducible assumption); (first | with_reducible assumption | exact heap_alloc_same _ _ | ((repeat (first | refine (heap_alloc_ne _ _ (by (first | omega | (simp only [World.size_alloc, World.putObj_size, ne_eq]; omega)))).trans ?_ | refine (heap_put_ne _ _ (by (first | omega | (simp only [World.size_alloc, World.putObj_size, ne_eq]; omega)))).trans ?_)); (first | with_reducible assumption | exact heap_alloc_same _ _ | exact World.putObj_heap_same (by (first | omega | (simp only [World.size_alloc, World.putObj_size, ne_eq]; omega)))))); exact rfl)
                  | (apply wr_box; exact rfl; exact rfl)
                  | (apply wr_alloc; exact rfl)
                  | (apply wr_cat; exact rfl; exact rfl; exact rfl; (first | omega | (simp only [List.length_append]; omega)))
                  | (apply wr_streqc; exact rfl; exact rfl; exact rfl; (first | exact decide_eq_true (by with_reducible assumption) | exact decide_eq_false (by with_reducible assumption) | exact decide_eq_true rfl | exact rfl))
                  | (apply wr_strnec; exact rfl; exact rfl; exact rfl; (first | exact decide_eq_true (by with_reducible assumption) | exact decide_eq_false (by with_reducible assumption) | exact decide_eq_true rfl | exact rfl); with_reducible (conv => enter [6, 3]; whnf))
                  | (apply wr_bits; exact rfl; (focus (simp; done)); exact rfl; exact rfl; assumption)
                  | (apply wr_eqnil_t; exact rfl; exact rfl)
                  | (apply wr_eqnil_f; exact rfl; exact rfl)
                  | (apply wr_nenil_f; exact rfl; exact rfl)
                  | (apply wr_nenil_t; exact rfl; exact rfl)
                  | (apply wc_true; exact rfl)
                  | (apply wc_false; exact rfl)
                  | apply wc_skip
                  | apply wc_block
                  | (apply wc_exit; try simp only [thenE, inBlockE, bodyQ, ↓reduceIte, Nat.reduceEqDiff])
                  | (apply wc_ret; try simp only [thenE, inBlockE, bodyQ])
                  | (apply wr_nil; try simp only [thenE, inBlockE, bodyQ])
                  | (apply wr_skip; exact rfl))
            exact ⟨rfl, by trivial⟩
        apply ch_step
        focus
          intro w' hS
          subst hS
          refine wr_indexAddr (i := 0) rfl rfl rfl (Nat.succ_pos _) ?_
          apply wr_nil
          exact ⟨rfl, rfl⟩
        apply ch_step
        focus
          intro w' hS
          subst hS
          refine wr_fieldAddr rfl rfl ?_
          apply wr_nil
          exact ⟨rfl, rfl⟩
        apply ch_step
        focus
          intro w' hS
          subst hS
          refine wr_load (v := .int .i64 1) rfl rfl rfl hb6 (cell_elem (g := WF.cs) (k := 4) (i := 0) (j := 1) WF.cs_len hr6 (Nat.succ_pos _) rfl rfl) ?_
          apply wr_nil
          exact ⟨rfl, rfl⟩
        repeat
          apply ch_step
          focus
            intro w' hS
            subst hS
            repeat (first
                  | (apply wr_move; exact rfl; with_reducible (conv => enter [6, 3]; whnf))
                  | (apply wr_assign; exact rfl; with_reducible (conv => enter [6, 3]; whnf))
                  | apply wr_end
                  | apply wc_seq
                  | apply wc_region
                  | (apply wr_fieldAddr; exact rfl; exact rfl)
                  | (apply wr_load; exact rfl; exact rfl; exact rfl; (first | with_reducible assumption | exact heap_alloc_same _ _ | ((repeat (first | refine (heap_alloc_ne _ _ (by (first | omega | (simp only [World.size_alloc, World.putObj_size, ne_eq]; omega)))).trans ?_ | refine (heap_put_ne _ _ (by (first | omega | (simp only [World.size_alloc, World.putObj_size, ne_eq]; omega)))).trans ?_)); (first | with_reducible assumption | exact heap_alloc_same _ _ | exact World.putObj_heap_same (by (first | omega | (simp only [World.size_alloc, World.putObj_size, ne_eq]; omega)))))); exact rfl; conv => enter [6, 3]; whnf)
                  | (apply wr_cmp; exact rfl; exact rfl; exact rfl; (first | exact cmp_lt_t (by omega) | exact cmp_lt_f (by omega) | exact cmp_eq_t (by omega) | exact cmp_eq_f (by omega) | exact cmp_ne_t (by omega) | exact cmp_ne_f (by omega) | exact cmp_le_t (by omega) | exact cmp_le_f (by omega) | exact cmp_gt_t (by omega) | exact cmp_gt_f (by omega) | exact cmp_ge_t (by omega) | exact cmp_ge_f (by omega) | exact cmp_lt _ _ | exact cmp_le _ _ | exact cmp_gt _ _ | exact cmp_ge _ _ | exact cmp_eq _ _ | exact cmp_ne _ _))
                  | (apply wr_pick (t := true); exact rfl; exact rfl; with_reducible (conv => enter [6, 3]; whnf))
                  | (apply wr_pick (t := false); exact rfl; exact rfl; with_reducible (conv => enter [6, 3]; whnf))
                  | (apply wr_add; exact rfl; exact rfl; exact rfl; (first | exact w_i64 (by omega) | exact w_u64 (by omega) | exact w_u8 (by omega) | exact w_u16 (by omega) | exact w_i32 (by omega) | exact w_u32 (by omega) | with_reducible assumption | rfl))
                  | (apply wr_sub; exact rfl; exact rfl; exact rfl; (first | exact w_i64 (by omega) | exact w_u64 (by omega) | exact w_u8 (by omega) | exact w_u16 (by omega) | exact w_i32 (by omega) | exact w_u32 (by omega) | with_reducible assumption | rfl))
                  | (apply wr_mul; exact rfl; exact rfl; exact rfl; (first | exact w_i64 (by omega) | exact w_u64 (by omega) | exact w_u8 (by omega) | exact w_u16 (by omega) | exact w_i32 (by omega) | exact w_u32 (by omega) | with_reducible assumption | rfl))
                  | (apply wr_conv; exact rfl; exact rfl; (first | exact w_i64 (by omega) | exact w_u64 (by omega) | exact w_u8 (by omega) | exact w_u16 (by omega) | exact w_i32 (by omega) | exact w_u32 (by omega) | with_reducible assumption | rfl))
                  | (apply wr_not; exact rfl; exact rfl)
                  | (apply wr_extract; exact rfl; exact rfl; exact rfl; with_reducible (conv => enter [6, 3]; whnf))
                  | (apply wr_len_str; exact rfl; exact rfl)
                  | (apply wr_len_slice; exact rfl; exact rfl)
                  | (apply wr_store; exact rfl; exact rfl; exact rfl; (first | exact rfl | with_reducible assumption); (first | with_reducible assumption | exact heap_alloc_same _ _ | ((repeat (first | refine (heap_alloc_ne _ _ (by (first | omega | (simp only [World.size_alloc, World.putObj_size, ne_eq]; omega)))).trans ?_ | refine (heap_put_ne _ _ (by (first | omega | (simp only [World.size_alloc, World.putObj_size, ne_eq]; omega)))).trans ?_)); (first | with_reducible assumption | exact heap_alloc_same _ _ | exact World.putObj_heap_same (by (first | omega | (simp only [World.size_alloc, World.putObj_size, ne_eq]; omega)))))); exact rfl)
                  | (apply wr_box; exact rfl; exact rfl)
                  | (apply wr_alloc; exact rfl)
                  | (apply wr_cat; exact rfl; exact rfl; exact rfl; (first | omega | (simp only [List.length_append]; omega)))
                  | (apply wr_streqc; exact rfl; exact rfl; exact rfl; (first | exact decide_eq_true (by with_reducible assumption) | exact decide_eq_false (by with_reducible assumption) | exact decide_eq_true rfl | exact rfl))
                  | (apply wr_strnec; exact rfl; exact rfl; exact rfl; (first | exact decide_eq_true (by with_reducible assumption) | exact decide_eq_false (by with_reducible assumption) | exact decide_eq_true rfl | exact rfl); with_reducible (conv => enter [6, 3]; whnf))
                  | (apply wr_bits; exact rfl; (focus (simp; done)); exact rfl; exact rfl; assumption)
                  | (apply wr_eqnil_t; exact rfl; exact rfl)
                  | (apply wr_eqnil_f; exact rfl; exact rfl)
                  | (apply wr_nenil_f; exact rfl; exact rfl)
                  | (apply wr_nenil_t; exact rfl; exact rfl)
                  | (apply wc_true; exact rfl)
                  | (apply wc_false; exact rfl)
                  | apply wc_skip
                  | apply wc_block
                  | (apply wc_exit; try simp only [thenE, inBlockE, bodyQ, ↓reduceIte, Nat.reduceEqDiff])
                  | (apply wc_ret; try simp only [thenE, inBlockE, bodyQ])
                  | (apply wr_nil; try simp only [thenE, inBlockE, bodyQ])
                  | (apply wr_skip; exact rfl))
            exact ⟨rfl, by trivial⟩
        apply ch_step
        focus
          intro w' hS
          subst hS
          refine wr_indexAddr (i := 0) rfl rfl rfl (Nat.succ_pos _) ?_
          apply wr_nil
          exact ⟨rfl, rfl⟩
        apply ch_step
        focus
          intro w' hS
          subst hS
          refine wr_fieldAddr rfl rfl ?_
          apply wr_nil
          exact ⟨rfl, rfl⟩
        apply ch_step
        focus
          intro w' hS
          subst hS
          refine wr_load (v := S (b.take 8)) rfl rfl rfl hb6 (cell_elem (g := WF.cs) (k := 4) (i := 0) (j := 3) WF.cs_len hr6 (Nat.succ_pos _) rfl rfl) ?_
          apply wr_nil
          exact ⟨rfl, rfl⟩
        repeat
          apply ch_step
          focus
            intro w' hS
            subst hS
            repeat (first
                  | (apply wr_move; exact rfl; with_reducible (conv => enter [6, 3]; whnf))
                  | (apply wr_assign; exact rfl; with_reducible (conv => enter [6, 3]; whnf))
                  | apply wr_end
                  | apply wc_seq
                  | apply wc_region
                  | (apply wr_fieldAddr; exact rfl; exact rfl)
                  | (apply wr_load; exact rfl; exact rfl; exact rfl; (first | with_reducible assumption | exact heap_alloc_same _ _ | ((repeat (first | refine (heap_alloc_ne _ _ (by (first | omega | (simp only [World.size_alloc, World.putObj_size, ne_eq]; omega)))).trans ?_ | refine (heap_put_ne _ _ (by (first | omega | (simp only [World.size_alloc, World.putObj_size, ne_eq]; omega)))).trans ?_)); (first | with_reducible assumption | exact heap_alloc_same _ _ | exact World.putObj_heap_same (by (first | omega | (simp only [World.size_alloc, World.putObj_size, ne_eq]; omega)))))); exact rfl; conv => enter [6, 3]; whnf)
                  | (apply wr_cmp; exact rfl; exact rfl; exact rfl; (first | exact cmp_lt_t (by omega) | exact cmp_lt_f (by omega) | exact cmp_eq_t (by omega) | exact cmp_eq_f (by omega) | exact cmp_ne_t (by omega) | exact cmp_ne_f (by omega) | exact cmp_le_t (by omega) | exact cmp_le_f (by omega) | exact cmp_gt_t (by omega) | exact cmp_gt_f (by omega) | exact cmp_ge_t (by omega) | exact cmp_ge_f (by omega) | exact cmp_lt _ _ | exact cmp_le _ _ | exact cmp_gt _ _ | exact cmp_ge _ _ | exact cmp_eq _ _ | exact cmp_ne _ _))
                  | (apply wr_pick (t := true); exact rfl; exact rfl; with_reducible (conv => enter [6, 3]; whnf))
                  | (apply wr_pick (t := false); exact rfl; exact rfl; with_reducible (conv => enter [6, 3]; whnf))
                  | (apply wr_add; exact rfl; exact rfl; exact rfl; (first | exact w_i64 (by omega) | exact w_u64 (by omega) | exact w_u8 (by omega) | exact w_u16 (by omega) | exact w_i32 (by omega) | exact w_u32 (by omega) | with_reducible assumption | rfl))
                  | (apply wr_sub; exact rfl; exact rfl; exact rfl; (first | exact w_i64 (by omega) | exact w_u64 (by omega) | exact w_u8 (by omega) | exact w_u16 (by omega) | exact w_i32 (by omega) | exact w_u32 (by omega) | with_reducible assumption | rfl))
                  | (apply wr_mul; exact rfl; exact rfl; exact rfl; (first | exact w_i64 (by omega) | exact w_u64 (by omega) | exact w_u8 (by omega) | exact w_u16 (by omega) | exact w_i32 (by omega) | exact w_u32 (by omega) | with_reducible assumption | rfl))
                  | (apply wr_conv; exact rfl; exact rfl; (first | exact w_i64 (by omega) | exact w_u64 (by omega) | exact w_u8 (by omega) | exact w_u16 (by omega) | exact w_i32 (by omega) | exact w_u32 (by omega) | with_reducible assumption | rfl))
                  | (apply wr_not; exact rfl; exact rfl)
                  | (apply wr_extract; exact rfl; exact rfl; exact rfl; with_reducible (conv => enter [6, 3]; whnf))
                  | (apply wr_len_str; exact rfl; exact rfl)
                  | (apply wr_len_slice; exact rfl; exact rfl)
                  | (apply wr_store; exact rfl; exact rfl; exact rfl; (first | exact rfl | with_reducible assumption); (first | with_reducible assumption | exact heap_alloc_same _ _ | ((repeat (first | refine (heap_alloc_ne _ _ (by (first | omega | (simp only [World.size_alloc, World.putObj_size, ne_eq]; omega)))).trans ?_ | refine (heap_put_ne _ _ (by (first | omega | (simp only [World.size_alloc, World.putObj_size, ne_eq]; omega)))).trans ?_)); (first | with_reducible assumption | exact heap_alloc_same _ _ | exact World.putObj_heap_same (by (first | omega | (simp only [World.size_alloc, World.putObj_size, ne_eq]; omega)))))); exact rfl)
                  | (apply wr_box; exact rfl; exact rfl)
                  | (apply wr_alloc; exact rfl)
                  | (apply wr_cat; exact rfl; exact rfl; exact rfl; (first | omega | (simp only [List.length_append]; omega)))
                  | (apply wr_streqc; exact rfl; exact rfl; exact rfl; (first | exact decide_eq_true (by with_reducible assumption) | exact decide_eq_false (by with_reducible assumption) | exact decide_eq_true rfl | exact rfl))
                  | (apply wr_strnec; exact rfl; exact rfl; exact rfl; (first | exact decide_eq_true (by with_reducible assumption) | exact decide_eq_false (by with_reducible assumption) | exact decide_eq_true rfl | exact rfl); with_reducible (conv => enter [6, 3]; whnf))
                  | (apply wr_bits; exact rfl; (focus (simp; done)); exact rfl; exact rfl; assumption)
                  | (apply wr_eqnil_t; exact rfl; exact rfl)
                  | (apply wr_eqnil_f; exact rfl; exact rfl)
                  | (apply wr_nenil_f; exact rfl; exact rfl)
                  | (apply wr_nenil_t; exact rfl; exact rfl)
                  | (apply wc_true; exact rfl)
                  | (apply wc_false; exact rfl)
                  | apply wc_skip
                  | apply wc_block
                  | (apply wc_exit; try simp only [thenE, inBlockE, bodyQ, ↓reduceIte, Nat.reduceEqDiff])
                  | (apply wc_ret; try simp only [thenE, inBlockE, bodyQ])
                  | (apply wr_nil; try simp only [thenE, inBlockE, bodyQ])
                  | (apply wr_skip; exact rfl))
            exact ⟨rfl, by trivial⟩
        apply ch_step
        focus
          intro w' hS
          subst hS
          refine wr_sl_to (j := 8) rfl rfl rfl hbl8 ?_
          apply wr_nil
          exact ⟨rfl, rfl⟩
        repeat
          apply ch_step
          focus
            intro w' hS
            subst hS
            repeat (first
                  | (apply wr_move; exact rfl; with_reducible (conv => enter [6, 3]; whnf))
                  | (apply wr_assign; exact rfl; with_reducible (conv => enter [6, 3]; whnf))
                  | apply wr_end
                  | apply wc_seq
                  | apply wc_region
                  | (apply wr_fieldAddr; exact rfl; exact rfl)
                  | (apply wr_load; exact rfl; exact rfl; exact rfl; (first | with_reducible assumption | exact heap_alloc_same _ _ | ((repeat (first | refine (heap_alloc_ne _ _ (by (first | omega | (simp only [World.size_alloc, World.putObj_size, ne_eq]; omega)))).trans ?_ | refine (heap_put_ne _ _ (by (first | omega | (simp only [World.size_alloc, World.putObj_size, ne_eq]; omega)))).trans ?_)); (first | with_reducible assumption | exact heap_alloc_same _ _ | exact World.putObj_heap_same (by (first | omega | (simp only [World.size_alloc, World.putObj_size, ne_eq]; omega)))))); exact rfl; conv => enter [6, 3]; whnf)
                  | (apply wr_cmp; exact rfl; exact rfl; exact rfl; (first | exact cmp_lt_t (by omega) | exact cmp_lt_f (by omega) | exact cmp_eq_t (by omega) | exact cmp_eq_f (by omega) | exact cmp_ne_t (by omega) | exact cmp_ne_f (by omega) | exact cmp_le_t (by omega) | exact cmp_le_f (by omega) | exact cmp_gt_t (by omega) | exact cmp_gt_f (by omega) | exact cmp_ge_t (by omega) | exact cmp_ge_f (by omega) | exact cmp_lt _ _ | exact cmp_le _ _ | exact cmp_gt _ _ | exact cmp_ge _ _ | exact cmp_eq _ _ | exact cmp_ne _ _))
                  | (apply wr_pick (t := true); exact rfl; exact rfl; with_reducible (conv => enter [6, 3]; whnf))
                  | (apply wr_pick (t := false); exact rfl; exact rfl; with_reducible (conv => enter [6, 3]; whnf))
                  | (apply wr_add; exact rfl; exact rfl; exact rfl; (first | exact w_i64 (by omega) | exact w_u64 (by omega) | exact w_u8 (by omega) | exact w_u16 (by omega) | exact w_i32 (by omega) | exact w_u32 (by omega) | with_reducible assumption | rfl))
                  | (apply wr_sub; exact rfl; exact rfl; exact rfl; (first | exact w_i64 (by omega) | exact w_u64 (by omega) | exact w_u8 (by omega) | exact w_u16 (by omega) | exact w_i32 (by omega) | exact w_u32 (by omega) | with_reducible assumption | rfl))
                  | (apply wr_mul; exact rfl; exact rfl; exact rfl; (first | exact w_i64 (by omega) | exact w_u64 (by omega) | exact w_u8 (by omega) | exact w_u16 (by omega) | exact w_i32 (by omega) | exact w_u32 (by omega) | with_reducible assumption | rfl))
                  | (apply wr_conv; exact rfl; exact rfl; (first | exact w_i64 (by omega) | exact w_u64 (by omega) | exact w_u8 (by omega) | exact w_u16 (by omega) | exact w_i32 (by omega) | exact w_u32 (by omega) | with_reducible assumption | rfl))
                  | (apply wr_not; exact rfl; exact rfl)
                  | (apply wr_extract; exact rfl; exact rfl; exact rfl; with_reducible (conv => enter [6, 3]; whnf))
                  | (apply wr_len_str; exact rfl; exact rfl)
                  | (apply wr_len_slice; exact rfl; exact rfl)
                  | (apply wr_store; exact rfl; exact rfl; exact rfl; (first | exact rfl | with_reducible assumption); (first | with_reducible assumption | exact heap_alloc_same _ _ | ((repeat (first | refine (heap_alloc_ne _ _ (by (first | omega | (simp only [World.size_alloc, World.putObj_size, ne_eq]; omega)))).trans ?_ | refine (heap_put_ne _ _ (by (first | omega | (simp only [World.size_alloc, World.putObj_size, ne_eq]; omega)))).trans ?_)); (first | with_reducible assumption | exact heap_alloc_same _ _ | exact World.putObj_heap_same (by (first | omega | (simp only [World.size_alloc, World.putObj_size, ne_eq]; omega)))))); exact rfl)
                  | (apply wr_box; exact rfl; exact rfl)
                  | (apply wr_alloc; exact rfl)
                  | (apply wr_cat; exact rfl; exact rfl; exact rfl; (first | omega | (simp only [List.length_append]; omega)))
                  | (apply wr_streqc; exact rfl; exact rfl; exact rfl; (first | exact decide_eq_true (by with_reducible assumption) | exact decide_eq_false (by with_reducible assumption) | exact decide_eq_true rfl | exact rfl))
                  | (apply wr_strnec; exact rfl; exact rfl; exact rfl; (first | exact decide_eq_true (by with_reducible assumption) | exact decide_eq_false (by with_reducible assumption) | exact decide_eq_true rfl | exact rfl); with_reducible (conv => enter [6, 3]; whnf))
                  | (apply wr_bits; exact rfl; (focus (simp; done)); exact rfl; exact rfl; assumption)
                  | (apply wr_eqnil_t; exact rfl; exact rfl)
                  | (apply wr_eqnil_f; exact rfl; exact rfl)
                  | (apply wr_nenil_f; exact rfl; exact rfl)
                  | (apply wr_nenil_t; exact rfl; exact rfl)
                  | (apply wc_true; exact rfl)
                  | (apply wc_false; exact rfl)
                  | apply wc_skip
                  | apply wc_block
                  | (apply wc_exit; try simp only [thenE, inBlockE, bodyQ, ↓reduceIte, Nat.reduceEqDiff])
                  | (apply wc_ret; try simp only [thenE, inBlockE, bodyQ])
                  | (apply wr_nil; try simp only [thenE, inBlockE, bodyQ])
                  | (apply wr_skip; exact rfl))
            exact ⟨rfl, by trivial⟩
        apply ch_step
        focus
          intro w' hS
          subst hS
          refine wr_indexAddr (i := 0) rfl rfl rfl (Nat.succ_pos _) ?_
          apply wr_nil
          exact ⟨rfl, rfl⟩
        apply ch_step
        focus
          intro w' hS
          subst hS
          refine wr_fieldAddr rfl rfl ?_
          apply wr_nil
          exact ⟨rfl, rfl⟩
        apply ch_step
        focus
          intro w' hS
          subst hS
          refine wr_load (v := .int .i64 (n : Int)) rfl rfl rfl hb6 (cell_elem (g := WF.cs) (k := 4) (i := 0) (j := 0) WF.cs_len hr6 (Nat.succ_pos _) rfl rfl) ?_
          apply wr_nil
          exact ⟨rfl, rfl⟩
        repeat
          apply ch_step
          focus
            intro w' hS
            subst hS
            repeat (first
                  | (apply wr_move; exact rfl; with_reducible (conv => enter [6, 3]; whnf))
                  | (apply wr_assign; exact rfl; with_reducible (conv => enter [6, 3]; whnf))
                  | apply wr_end
                  | apply wc_seq
                  | apply wc_region
                  | (apply wr_fieldAddr; exact rfl; exact rfl)
                  | (apply wr_load; exact rfl; exact rfl; exact rfl; (first | with_reducible assumption | exact heap_alloc_same _ _ | ((repeat (first | refine (heap_alloc_ne _ _ (by (first | omega | (simp only [World.size_alloc, World.putObj_size, ne_eq]; omega)))).trans ?_ | refine (heap_put_ne _ _ (by (first | omega | (simp only [World.size_alloc, World.putObj_size, ne_eq]; omega)))).trans ?_)); (first | with_reducible assumption | exact heap_alloc_same _ _ | exact World.putObj_heap_same (by (first | omega | (simp only [World.size_alloc, World.putObj_size, ne_eq]; omega)))))); exact rfl; conv => enter [6, 3]; whnf)
                  | (apply wr_cmp; exact rfl; exact rfl; exact rfl; (first | exact cmp_lt_t (by omega) | exact cmp_lt_f (by omega) | exact cmp_eq_t (by omega) | exact cmp_eq_f (by omega) | exact cmp_ne_t (by omega) | exact cmp_ne_f (by omega) | exact cmp_le_t (by omega) | exact cmp_le_f (by omega) | exact cmp_gt_t (by omega) | exact cmp_gt_f (by omega) | exact cmp_ge_t (by omega) | exact cmp_ge_f (by omega) | exact cmp_lt _ _ | exact cmp_le _ _ | exact cmp_gt _ _ | exact cmp_ge _ _ | exact cmp_eq _ _ | exact cmp_ne _ _))
                  | (apply wr_pick (t := true); exact rfl; exact rfl; with_reducible (conv => enter [6, 3]; whnf))
                  | (apply wr_pick (t := false); exact rfl; exact rfl; with_reducible (conv => enter [6, 3]; whnf))
                  | (apply wr_add; exact rfl; exact rfl; exact rfl; (first | exact w_i64 (by omega) | exact w_u64 (by omega) | exact w_u8 (by omega) | exact w_u16 (by omega) | exact w_i32 (by omega) | exact w_u32 (by omega) | with_reducible assumption | rfl))
                  | (apply wr_sub; exact rfl; exact rfl; exact rfl; (first | exact w_i64 (by omega) | exact w_u64 (by omega) | exact w_u8 (by omega) | exact w_u16 (by omega) | exact w_i32 (by omega) | exact w_u32 (by omega) | with_reducible assumption | rfl))
                  | (apply wr_mul; exact rfl; exact rfl; exact rfl; (first | exact w_i64 (by omega) | exact w_u64 (by omega) | exact w_u8 (by omega) | exact w_u16 (by omega) | exact w_i32 (by omega) | exact w_u32 (by omega) | with_reducible assumption | rfl))
                  | (apply wr_conv; exact rfl; exact rfl; (first | exact w_i64 (by omega) | exact w_u64 (by omega) | exact w_u8 (by omega) | exact w_u16 (by omega) | exact w_i32 (by omega) | exact w_u32 (by omega) | with_reducible assumption | rfl))
                  | (apply wr_not; exact rfl; exact rfl)
                  | (apply wr_extract; exact rfl; exact rfl; exact rfl; with_reducible (conv => enter [6, 3]; whnf))
                  | (apply wr_len_str; exact rfl; exact rfl)
                  | (apply wr_len_slice; exact rfl; exact rfl)
                  | (apply wr_store; exact rfl; exact rfl; exact rfl; (first | exact rfl | with_reducible assumption); (first | with_reducible assumption | exact heap_alloc_same _ _ | ((repeat (first | refine (heap_alloc_ne _ _ (by (first | omega | (simp only [World.size_alloc, World.putObj_size, ne_eq]; omega)))).trans ?_ | refine (heap_put_ne _ _ (by (first | omega | (simp only [World.size_alloc, World.putObj_size, ne_eq]; omega)))).trans ?_)); (first | with_reducible assumption | exact heap_alloc_same _ _ | exact World.putObj_heap_same (by (first | omega | (simp only [World.size_alloc, World.putObj_size, ne_eq]; omega)))))); exact rfl)
                  | (apply wr_box; exact rfl; exact rfl)
                  | (apply wr_alloc; exact rfl)
                  | (apply wr_cat; exact rfl; exact rfl; exact rfl; (first | omega | (simp only [List.length_append]; omega)))
                  | (apply wr_streqc; exact rfl; exact rfl; exact rfl; (first | exact decide_eq_true (by with_reducible assumption) | exact decide_eq_false (by with_reducible assumption) | exact decide_eq_true rfl | exact rfl))
                  | (apply wr_strnec; exact rfl; exact rfl; exact rfl; (first | exact decide_eq_true (by with_reducible assumption) | exact decide_eq_false (by with_reducible assumption) | exact decide_eq_true rfl | exact rfl); with_reducible (conv => enter [6, 3]; whnf))
                  | (apply wr_bits; exact rfl; (focus (simp; done)); exact rfl; exact rfl; assumption)
                  | (apply wr_eqnil_t; exact rfl; exact rfl)
                  | (apply wr_eqnil_f; exact rfl; exact rfl)
                  | (apply wr_nenil_f; exact rfl; exact rfl)
                  | (apply wr_nenil_t; exact rfl; exact rfl)
                  | (apply wc_true; exact rfl)
                  | (apply wc_false; exact rfl)
                  | apply wc_skip
                  | apply wc_block
                  | (apply wc_exit; try simp only [thenE, inBlockE, bodyQ, ↓reduceIte, Nat.reduceEqDiff])
                  | (apply wc_ret; try simp only [thenE, inBlockE, bodyQ])
                  | (apply wr_nil; try simp only [thenE, inBlockE, bodyQ])
                  | (apply wr_skip; exact rfl))
            exact ⟨rfl, by trivial⟩
        refine ch_nil ?_
        intro w' hS
        subst hS
        repeat (first
              | (apply wr_move; exact rfl; with_reducible (conv => enter [6, 3]; whnf))
              | (apply wr_assign; exact rfl; with_reducible (conv => enter [6, 3]; whnf))
              | apply wr_end
              | apply wc_seq
              | apply wc_region
              | (apply wr_fieldAddr; exact rfl; exact rfl)
              | (apply wr_load; exact rfl; exact rfl; exact rfl; (first | with_reducible assumption | exact heap_alloc_same _ _ | ((repeat (first | refine (heap_alloc_ne _ _ (by (first | omega | (simp only [World.size_alloc, World.putObj_size, ne_eq]; omega)))).trans ?_ | refine (heap_put_ne _ _ (by (first | omega | (simp only [World.size_alloc, World.putObj_size, ne_eq]; omega)))).trans ?_)); (first | with_reducible assumption | exact heap_alloc_same _ _ | exact World.putObj_heap_same (by (first | omega | (simp only [World.size_alloc, World.putObj_size, ne_eq]; omega)))))); exact rfl; conv => enter [6, 3]; whnf)
              | (apply wr_cmp; exact rfl; exact rfl; exact rfl; (first | exact cmp_lt_t (by omega) | exact cmp_lt_f (by omega) | exact cmp_eq_t (by omega) | exact cmp_eq_f (by omega) | exact cmp_ne_t (by omega) | exact cmp_ne_f (by omega) | exact cmp_le_t (by omega) | exact cmp_le_f (by omega) | exact cmp_gt_t (by omega) | exact cmp_gt_f (by omega) | exact cmp_ge_t (by omega) | exact cmp_ge_f (by omega) | exact cmp_lt _ _ | exact cmp_le _ _ | exact cmp_gt _ _ | exact cmp_ge _ _ | exact cmp_eq _ _ | exact cmp_ne _ _))
              | (apply wr_pick (t := true); exact rfl; exact rfl; with_reducible (conv => enter [6, 3]; whnf))
              | (apply wr_pick (t := false); exact rfl; exact rfl; with_reducible (conv => enter [6, 3]; whnf))
              | (apply wr_add; exact rfl; exact rfl; exact rfl; (first | exact w_i64 (by omega) | exact w_u64 (by omega) | exact w_u8 (by omega) | exact w_u16 (by omega) | exact w_i32 (by omega) | exact w_u32 (by omega) | with_reducible assumption | rfl))
              | (apply wr_sub; exact rfl; exact rfl; exact rfl; (first | exact w_i64 (by omega) | exact w_u64 (by omega) | exact w_u8 (by omega) | exact w_u16 (by omega) | exact w_i32 (by omega) | exact w_u32 (by omega) | with_reducible assumption | rfl))
              | (apply wr_mul; exact rfl; exact rfl; exact rfl; (first | exact w_i64 (by omega) | exact w_u64 (by omega) | exact w_u8 (by omega) | exact w_u16 (by omega) | exact w_i32 (by omega) | exact w_u32 (by omega) | with_reducible assumption | rfl))
              | (apply wr_conv; exact rfl; exact rfl; (first | exact w_i64 (by omega) | exact w_u64 (by omega) | exact w_u8 (by omega) | exact w_u16 (by omega) | exact w_i32 (by omega) | exact w_u32 (by omega) | with_reducible assumption | rfl))
              | (apply wr_not; exact rfl; exact rfl)
              | (apply wr_extract; exact rfl; exact rfl; exact rfl; with_reducible (conv => enter [6, 3]; whnf))
              | (apply wr_len_str; exact rfl; exact rfl)
              | (apply wr_len_slice; exact rfl; exact rfl)
              | (apply wr_store; exact rfl; exact rfl; exact rfl; (first | exact rfl | with_reducible assumption); (first | with_reducible assumption | exact heap_alloc_same _ _ | ((repeat (first | refine (heap_alloc_ne _ _ (by (first | omega | (simp only [World.size_alloc, World.putObj_size, ne_eq]; omega)))).trans ?_ | refine (heap_put_ne _ _ (by (first | omega | (simp only [World.size_alloc, World.putObj_size, ne_eq]; omega)))).trans ?_)); (first | with_reducible assumption | exact heap_alloc_same _ _ | exact World.putObj_heap_same (by (first | omega | (simp only [World.size_alloc, World.putObj_size, ne_eq]; omega)))))); exact rfl)
              | (apply wr_box; exact rfl; exact rfl)
              | (apply wr_alloc; exact rfl)
              | (apply wr_cat; exact rfl; exact rfl; exact rfl; (first | omega | (simp only [List.length_append]; omega)))
              | (apply wr_streqc; exact rfl; exact rfl; exact rfl; (first | exact decide_eq_true (by with_reducible assumption) | exact decide_eq_false (by with_reducible assumption) | exact decide_eq_true rfl | exact rfl))
              | (apply wr_strnec; exact rfl; exact rfl; exact rfl; (first | exact decide_eq_true (by with_reducible assumption) | exact decide_eq_false (by with_reducible assumption) | exact decide_eq_true rfl | exact rfl); with_reducible (conv => enter [6, 3]; whnf))
              | (apply wr_bits; exact rfl; (focus (simp; done)); exact rfl; exact rfl; assumption)
              | (apply wr_eqnil_t; exact rfl; exact rfl)
              | (apply wr_eqnil_f; exact rfl; exact rfl)
              | (apply wr_nenil_f; exact rfl; exact rfl)
              | (apply wr_nenil_t; exact rfl; exact rfl)
              | (apply wc_true; exact rfl)
              | (apply wc_false; exact rfl)
              | apply wc_skip
              | apply wc_block
              | (apply wc_exit; try simp only [thenE, inBlockE, bodyQ, ↓reduceIte, Nat.reduceEqDiff])
              | (apply wc_ret; try simp only [thenE, inBlockE, bodyQ])
              | (apply wr_nil; try simp only [thenE, inBlockE, bodyQ])
              | (apply wr_skip; exact rfl))
        exact leave1 (v := .bool true) rfl rfl ⟨rfl, hkk.drew⟩
  · rcases h with ⟨hbl8, hp⟩ | ⟨hbl8, hp⟩ | ⟨hbl8, l, hp⟩
    · rw [hp] at hal ⊢
      repeat (first
            | (apply wr_move; exact rfl; with_reducible (conv => enter [6, 3]; whnf))
            | (apply wr_assign; exact rfl; with_reducible (conv => enter [6, 3]; whnf))
            | apply wr_end
            | apply wc_seq
            | apply wc_region
            | (apply wr_fieldAddr; exact rfl; exact rfl)
            | (apply wr_load; exact rfl; exact rfl; exact rfl; (first | with_reducible assumption | exact heap_alloc_same _ _ | ((repeat (first | refine (heap_alloc_ne _ _ (by (first | omega | (simp only [World.size_alloc, World.putObj_size, ne_eq]; omega)))).trans ?_ | refine (heap_put_ne _ _ (by (first | omega | (simp only [World.size_alloc, World.putObj_size, ne_eq]; omega)))).trans ?_)); (first | with_reducible assumption | exact heap_alloc_same _ _ | exact World.putObj_heap_same (by (first | omega | (simp only [World.size_alloc, World.putObj_size, ne_eq]; omega)))))); exact rfl; conv => enter [6, 3]; whnf)
            | (apply wr_cmp; exact rfl; exact rfl; exact rfl; (first | exact cmp_lt_t (by omega) | exact cmp_lt_f (by omega) | exact cmp_eq_t (by omega) | exact cmp_eq_f (by omega) | exact cmp_ne_t (by omega) | exact cmp_ne_f (by omega) | exact cmp_le_t (by omega) | exact cmp_le_f (by omega) | exact cmp_gt_t (by omega) | exact cmp_gt_f (by omega) | exact cmp_ge_t (by omega) | exact cmp_ge_f (by omega) | exact cmp_lt _ _ | exact cmp_le _ _ | exact cmp_gt _ _ | exact cmp_ge _ _ | exact cmp_eq _ _ | exact cmp_ne _ _))
            | (apply wr_pick (t := true); exact rfl; exact rfl; with_reducible (conv => enter [6, 3]; whnf))
            | (apply wr_pick (t := false); exact rfl; exact rfl; with_reducible (conv => enter [6, 3]; whnf))
            | (apply wr_add; exact rfl; exact rfl; exact rfl; (first | exact w_i64 (by omega) | exact w_u64 (by omega) | exact w_u8 (by omega) | exact w_u16 (by omega) | exact w_i32 (by omega) | exact w_u32 (by omega) | with_reducible assumption | rfl))
            | (apply wr_sub; exact rfl; exact rfl; exact rfl; (first | exact w_i64 (by omega) | exact w_u64 (by omega) | exact w_u8 (by omega) | exact w_u16 (by omega) | exact w_i32 (by omega) | exact w_u32 (by omega) | with_reducible assumption | rfl))
            | (apply wr_mul; exact rfl; exact rfl; exact rfl; (first | exact w_i64 (by omega) | exact w_u64 (by omega) | exact w_u8 (by omega) | exact w_u16 (by omega) | exact w_i32 (by omega) | exact w_u32 (by omega) | with_reducible assumption | rfl))
            | (apply wr_conv; exact rfl; exact rfl; (first | exact w_i64 (by omega) | exact w_u64 (by omega) | exact w_u8 (by omega) | exact w_u16 (by omega) | exact w_i32 (by omega) | exact w_u32 (by omega) | with_reducible assumption | rfl))
            | (apply wr_not; exact rfl; exact rfl)
            | (apply wr_extract; exact rfl; exact rfl; exact rfl; with_reducible (conv => enter [6, 3]; whnf))
            | (apply wr_len_str; exact rfl; exact rfl)
            | (apply wr_len_slice; exact rfl; exact rfl)
            | (apply wr_store; exact rfl; exact rfl; exact rfl; (first | exact rfl | with_reducible assumption); (first | with_reducible assumption | exact heap_alloc_same _ _ | ((repeat (first | refine (heap_alloc_ne _ _ (by (first | omega | (simp only [World.size_alloc, World.putObj_size, ne_eq]; omega)))).trans ?_ | refine (heap_put_ne _ _ (by (first | omega | (simp only [World.size_alloc, World.putObj_size, ne_eq]; omega)))).trans ?_)); (first | with_reducible assumption | exact heap_alloc_same _ _ | exact World.putObj_heap_same (by (first | omega | (simp only [World.size_alloc, World.putObj_size, ne_eq]; omega)))))); exact rfl)
            | (apply wr_box; exact rfl; exact rfl)
            | (apply wr_alloc; exact rfl)
            | (apply wr_cat; exact rfl; exact rfl; exact rfl; (first | omega | (simp only [List.length_append]; omega)))
            | (apply wr_streqc; exact rfl; exact rfl; exact rfl; (first | exact decide_eq_true (by with_reducible assumption) | exact decide_eq_false (by with_reducible assumption) | exact decide_eq_true rfl | exact rfl))
            | (apply wr_strnec; exact rfl; exact rfl; exact rfl; (first | exact decide_eq_true (by with_reducible assumption) | exact decide_eq_false (by with_reducible assumption) | exact decide_eq_true rfl | exact rfl); with_reducible (conv => enter [6, 3]; whnf))
            | (apply wr_bits; exact rfl; (focus (simp; done)); exact rfl; exact rfl; assumption)
            | (apply wr_eqnil_t; exact rfl; exact rfl)
            | (apply wr_eqnil_f; exact rfl; exact rfl)
            | (apply wr_nenil_f; exact rfl; exact rfl)
            | (apply wr_nenil_t; exact rfl; exact rfl)
            | (apply wc_true; exact rfl)
            | (apply wc_false; exact rfl)
            | apply wc_skip
            | apply wc_block
            | (apply wc_exit; try simp only [thenE, inBlockE, bodyQ, ↓reduceIte, Nat.reduceEqDiff])
            | (apply wc_ret; try simp only [thenE, inBlockE, bodyQ])
            | (apply wr_nil; try simp only [thenE, inBlockE, bodyQ])
            | (apply wr_skip; exact rfl))
      refine wc_drawS (l := _) (S := fun w' => w' = w6.drew) (by kernel_rfl) (by kernel_rfl) rfl ?_
      repeat
        apply ch_step
        focus
          intro w' hS
          subst hS
          repeat (first
                | (apply wr_move; exact rfl; with_reducible (conv => enter [6, 3]; whnf))
                | (apply wr_assign; exact rfl; with_reducible (conv => enter [6, 3]; whnf))
                | apply wr_end
                | apply wc_seq
                | apply wc_region
                | (apply wr_fieldAddr; exact rfl; exact rfl)
                | (apply wr_load; exact rfl; exact rfl; exact rfl; (first | with_reducible assumption | exact heap_alloc_same _ _ | ((repeat (first | refine (heap_alloc_ne _ _ (by (first | omega | (simp only [World.size_alloc, World.putObj_size, ne_eq]; omega)))).trans ?_ | refine (heap_put_ne _ _ (by (first | omega | (simp only [World.size_alloc, World.putObj_size, ne_eq]; omega)))).trans ?_)); (first | with_reducible assumption | exact heap_alloc_same _ _ | exact World.putObj_heap_same (by (first | omega | (simp only [World.size_alloc, World.putObj_size, ne_eq]; omega)))))); exact rfl; conv => enter [6, 3]; whnf)
                | (apply wr_cmp; exact rfl; exact rfl; exact rfl; (first | exact cmp_lt_t (by omega) | exact cmp_lt_f (by omega) | exact cmp_eq_t (by omega) | exact cmp_eq_f (by omega) | exact cmp_ne_t (by omega) | exact cmp_ne_f (by omega) | exact cmp_le_t (by omega) | exact cmp_le_f (by omega) | exact cmp_gt_t (by omega) | exact cmp_gt_f (by omega) | exact cmp_ge_t (by omega) | exact cmp_ge_f (by omega) | exact cmp_lt _ _ | exact cmp_le _ _ | exact cmp_gt _ _ | exact cmp_ge _ _ | exact cmp_eq _ _ | exact cmp_ne _ _))
                | (apply wr_pick (t := true); exact rfl; exact rfl; with_reducible (conv => enter [6, 3]; whnf))
                | (apply wr_pick (t := false); exact rfl; exact rfl; with_reducible (conv => enter [6, 3]; whnf))
                | (apply wr_add; exact rfl; exact rfl; exact rfl; (first | exact w_i64 (by omega) | exact w_u64 (by omega) | exact w_u8 (by omega) | exact w_u16 (by omega) | exact w_i32 (by omega) | exact w_u32 (by omega) | with_reducible assumption | rfl))
                | (apply wr_sub; exact rfl; exact rfl; exact rfl; (first | exact w_i64 (by omega) | exact w_u64 (by omega) | exact w_u8 (by omega) | exact w_u16 (by omega) | exact w_i32 (by omega) | exact w_u32 (by omega) | with_reducible assumption | rfl))
                | (apply wr_mul; exact rfl; exact rfl; exact rfl; (first | exact w_i64 (by omega) | exact w_u64 (by omega) | exact w_u8 (by omega) | exact w_u16 (by omega) | exact w_i32 (by omega) | exact w_u32 (by omega) | with_reducible assumption | rfl))
                | (apply wr_conv; exact rfl; exact rfl; (first | exact w_i64 (by omega) | exact w_u64 (by omega) | exact w_u8 (by omega) | exact w_u16 (by omega) | exact w_i32 (by omega) | exact w_u32 (by omega) | with_reducible assumption | rfl))
                | (apply wr_not; exact rfl; exact rfl)
                | (apply wr_extract; exact rfl; exact rfl; exact rfl; with_reducible (conv => enter [6, 3]; whnf))
                | (apply wr_len_str; exact rfl; exact rfl)
                | (apply wr_len_slice; exact rfl; exact rfl)
                | (apply wr_store; exact rfl; exact rfl; exact rfl; (first | exact rfl | with_reducible assumption); (first | with_reducible assumption | exact heap_alloc_same _ _ | ((repeat (first | refine (heap_alloc_ne _ _ (by (first | omega | (simp only [World.size_alloc, World.putObj_size, ne_eq]; omega)))).trans ?_ | refine (heap_put_ne _ _ (by (first | omega | (simp only [World.size_alloc, World.putObj_size, ne_eq]; omega)))).trans ?_)); (first | with_reducible assumption | exact heap_alloc_same _ _ | exact World.putObj_heap_same (by (first | omega | (simp only [World.size_alloc, World.putObj_size, ne_eq]; omega)))))); exact rfl)
                | (apply wr_box; exact rfl; exact rfl)
                | (apply wr_alloc; exact rfl)
                | (apply wr_cat; exact rfl; exact rfl; exact rfl; (first | omega | (simp only [List.length_append]; omega)))
                | (apply wr_streqc; exact rfl; exact rfl; exact rfl; (first | exact decide_eq_true (by with_reducible assumption) | exact decide_eq_false (by with_reducible assumption) | exact decide_eq_true rfl | exact rfl))
                | (apply wr_strnec; exact rfl; exact rfl; exact rfl; (first | exact decide_eq_true (by with_reducible assumption) | exact decide_eq_false (by with_reducible assumption) | exact decide_eq_true rfl | exact rfl); with_reducible (conv => enter [6, 3]; whnf))
                | (apply wr_bits; exact rfl; (focus (simp; done)); exact rfl; exact rfl; assumption)
                | (apply wr_eqnil_t; exact rfl; exact rfl)
                | (apply wr_eqnil_f; exact rfl; exact rfl)
                | (apply wr_nenil_f; exact rfl; exact rfl)
                | (apply wr_nenil_t; exact rfl; exact rfl)
                | (apply wc_true; exact rfl)
                | (apply wc_false; exact rfl)
                | apply wc_skip
                | apply wc_block
                | (apply wc_exit; try simp only [thenE, inBlockE, bodyQ, ↓reduceIte, Nat.reduceEqDiff])
                | (apply wc_ret; try simp only [thenE, inBlockE, bodyQ])
                | (apply wr_nil; try simp only [thenE, inBlockE, bodyQ])
                | (apply wr_skip; exact rfl))
          exact ⟨rfl, by trivial⟩
      refine ch_nil ?_
      intro w' hS
      subst hS
      repeat (first
            | (apply wr_move; exact rfl; with_reducible (conv => enter [6, 3]; whnf))
            | (apply wr_assign; exact rfl; with_reducible (conv => enter [6, 3]; whnf))
            | apply wr_end
            | apply wc_seq
            | apply wc_region
            | (apply wr_fieldAddr; exact rfl; exact rfl)
            | (apply wr_load; exact rfl; exact rfl; exact rfl; (first | with_reducible assumption | exact heap_alloc_same _ _ | ((repeat (first | refine (heap_alloc_ne _ _ (by (first | omega | (simp only [World.size_alloc, World.putObj_size, ne_eq]; omega)))).trans ?_ | refine (heap_put_ne _ _ (by (first | omega | (simp only [World.size_alloc, World.putObj_size, ne_eq]; omega)))).trans ?_)); (first | with_reducible assumption | exact heap_alloc_same _ _ | exact World.putObj_heap_same (by (first | omega | (simp only [World.size_alloc, World.putObj_size, ne_eq]; omega)))))); exact rfl; conv => enter [6, 3]; whnf)
            | (apply wr_cmp; exact rfl; exact rfl; exact rfl; (first | exact cmp_lt_t (by omega) | exact cmp_lt_f (by omega) | exact cmp_eq_t (by omega) | exact cmp_eq_f (by omega) | exact cmp_ne_t (by omega) | exact cmp_ne_f (by omega) | exact cmp_le_t (by omega) | exact cmp_le_f (by omega) | exact cmp_gt_t (by omega) | exact cmp_gt_f (by omega) | exact cmp_ge_t (by omega) | exact cmp_ge_f (by omega) | exact cmp_lt _ _ | exact cmp_le _ _ | exact cmp_gt _ _ | exact cmp_ge _ _ | exact cmp_eq _ _ | exact cmp_ne _ _))
            | (apply wr_pick (t := true); exact rfl; exact rfl; with_reducible (conv => enter [6, 3]; whnf))
            | (apply wr_pick (t := false); exact rfl; exact rfl; with_reducible (conv => enter [6, 3]; whnf))
            | (apply wr_add; exact rfl; exact rfl; exact rfl; (first | exact w_i64 (by omega) | exact w_u64 (by omega) | exact w_u8 (by omega) | exact w_u16 (by omega) | exact w_i32 (by omega) | exact w_u32 (by omega) | with_reducible assumption | rfl))
            | (apply wr_sub; exact rfl; exact rfl; exact rfl; (first | exact w_i64 (by omega) | exact w_u64 (by omega) | exact w_u8 (by omega) | exact w_u16 (by omega) | exact w_i32 (by omega) | exact w_u32 (by omega) | with_reducible assumption | rfl))
            | (apply wr_mul; exact rfl; exact rfl; exact rfl; (first | exact w_i64 (by omega) | exact w_u64 (by omega) | exact w_u8 (by omega) | exact w_u16 (by omega) | exact w_i32 (by omega) | exact w_u32 (by omega) | with_reducible assumption | rfl))
            | (apply wr_conv; exact rfl; exact rfl; (first | exact w_i64 (by omega) | exact w_u64 (by omega) | exact w_u8 (by omega) | exact w_u16 (by omega) | exact w_i32 (by omega) | exact w_u32 (by omega) | with_reducible assumption | rfl))
            | (apply wr_not; exact rfl; exact rfl)
            | (apply wr_extract; exact rfl; exact rfl; exact rfl; with_reducible (conv => enter [6, 3]; whnf))
            | (apply wr_len_str; exact rfl; exact rfl)
            | (apply wr_len_slice; exact rfl; exact rfl)
            | (apply wr_store; exact rfl; exact rfl; exact rfl; (first | exact rfl | with_reducible assumption); (first | with_reducible assumption | exact heap_alloc_same _ _ | ((repeat (first | refine (heap_alloc_ne _ _ (by (first | omega | (simp only [World.size_alloc, World.putObj_size, ne_eq]; omega)))).trans ?_ | refine (heap_put_ne _ _ (by (first | omega | (simp only [World.size_alloc, World.putObj_size, ne_eq]; omega)))).trans ?_)); (first | with_reducible assumption | exact heap_alloc_same _ _ | exact World.putObj_heap_same (by (first | omega | (simp only [World.size_alloc, World.putObj_size, ne_eq]; omega)))))); exact rfl)
            | (apply wr_box; exact rfl; exact rfl)
            | (apply wr_alloc; exact rfl)
            | (apply wr_cat; exact rfl; exact rfl; exact rfl; (first | omega | (simp only [List.length_append]; omega)))
            | (apply wr_streqc; exact rfl; exact rfl; exact rfl; (first | exact decide_eq_true (by with_reducible assumption) | exact decide_eq_false (by with_reducible assumption) | exact decide_eq_true rfl | exact rfl))
            | (apply wr_strnec; exact rfl; exact rfl; exact rfl; (first | exact decide_eq_true (by with_reducible assumption) | exact decide_eq_false (by with_reducible assumption) | exact decide_eq_true rfl | exact rfl); with_reducible (conv => enter [6, 3]; whnf))
            | (apply wr_bits; exact rfl; (focus (simp; done)); exact rfl; exact rfl; assumption)
            | (apply wr_eqnil_t; exact rfl; exact rfl)
            | (apply wr_eqnil_f; exact rfl; exact rfl)
            | (apply wr_nenil_f; exact rfl; exact rfl)
            | (apply wr_nenil_t; exact rfl; exact rfl)
            | (apply wc_true; exact rfl)
            | (apply wc_false; exact rfl)
            | apply wc_skip
            | apply wc_block
            | (apply wc_exit; try simp only [thenE, inBlockE, bodyQ, ↓reduceIte, Nat.reduceEqDiff])
            | (apply wc_ret; try simp only [thenE, inBlockE, bodyQ])
            | (apply wr_nil; try simp only [thenE, inBlockE, bodyQ])
            | (apply wr_skip; exact rfl))
      exact leave1 (v := .bool true) rfl rfl ⟨rfl, hkk.drew⟩
    · rw [hp] at hal ⊢
      repeat (first
            | (apply wr_move; exact rfl; with_reducible (conv => enter [6, 3]; whnf))
            | (apply wr_assign; exact rfl; with_reducible (conv => enter [6, 3]; whnf))
            | apply wr_end
            | apply wc_seq
            | apply wc_region
            | (apply wr_fieldAddr; exact rfl; exact rfl)
            | (apply wr_load; exact rfl; exact rfl; exact rfl; (first | with_reducible assumption | exact heap_alloc_same _ _ | ((repeat (first | refine (heap_alloc_ne _ _ (by (first | omega | (simp only [World.size_alloc, World.putObj_size, ne_eq]; omega)))).trans ?_ | refine (heap_put_ne _ _ (by (first | omega | (simp only [World.size_alloc, World.putObj_size, ne_eq]; omega)))).trans ?_)); (first | with_reducible assumption | exact heap_alloc_same _ _ | exact World.putObj_heap_same (by (first | omega | (simp only [World.size_alloc, World.putObj_size, ne_eq]; omega)))))); exact rfl; conv => enter [6, 3]; whnf)
            | (apply wr_cmp; exact rfl; exact rfl; exact rfl; (first | exact cmp_lt_t (by omega) | exact cmp_lt_f (by omega) | exact cmp_eq_t (by omega) | exact cmp_eq_f (by omega) | exact cmp_ne_t (by omega) | exact cmp_ne_f (by omega) | exact cmp_le_t (by omega) | exact cmp_le_f (by omega) | exact cmp_gt_t (by omega) | exact cmp_gt_f (by omega) | exact cmp_ge_t (by omega) | exact cmp_ge_f (by omega) | exact cmp_lt _ _ | exact cmp_le _ _ | exact cmp_gt _ _ | exact cmp_ge _ _ | exact cmp_eq _ _ | exact cmp_ne _ _))
            | (apply wr_pick (t := true); exact rfl; exact rfl; with_reducible (conv => enter [6, 3]; whnf))
            | (apply wr_pick (t := false); exact rfl; exact rfl; with_reducible (conv => enter [6, 3]; whnf))
            | (apply wr_add; exact rfl; exact rfl; exact rfl; (first | exact w_i64 (by omega) | exact w_u64 (by omega) | exact w_u8 (by omega) | exact w_u16 (by omega) | exact w_i32 (by omega) | exact w_u32 (by omega) | with_reducible assumption | rfl))
            | (apply wr_sub; exact rfl; exact rfl; exact rfl; (first | exact w_i64 (by omega) | exact w_u64 (by omega) | exact w_u8 (by omega) | exact w_u16 (by omega) | exact w_i32 (by omega) | exact w_u32 (by omega) | with_reducible assumption | rfl))
            | (apply wr_mul; exact rfl; exact rfl; exact rfl; (first | exact w_i64 (by omega) | exact w_u64 (by omega) | exact w_u8 (by omega) | exact w_u16 (by omega) | exact w_i32 (by omega) | exact w_u32 (by omega) | with_reducible assumption | rfl))
            | (apply wr_conv; exact rfl; exact rfl; (first | exact w_i64 (by omega) | exact w_u64 (by omega) | exact w_u8 (by omega) | exact w_u16 (by omega) | exact w_i32 (by omega) | exact w_u32 (by omega) | with_reducible assumption | rfl))
            | (apply wr_not; exact rfl; exact rfl)
            | (apply wr_extract; exact rfl; exact rfl; exact rfl; with_reducible (conv => enter [6, 3]; whnf))
            | (apply wr_len_str; exact rfl; exact rfl)
            | (apply wr_len_slice; exact rfl; exact rfl)
            | (apply wr_store; exact rfl; exact rfl; exact rfl; (first | exact rfl | with_reducible assumption); (first | with_reducible assumption | exact heap_alloc_same _ _ | ((repeat (first | refine (heap_alloc_ne _ _ (by (first | omega | (simp only [World.size_alloc, World.putObj_size, ne_eq]; omega)))).trans ?_ | refine (heap_put_ne _ _ (by (first | omega | (simp only [World.size_alloc, World.putObj_size, ne_eq]; omega)))).trans ?_)); (first | with_reducible assumption | exact heap_alloc_same _ _ | exact World.putObj_heap_same (by (first | omega | (simp only [World.size_alloc, World.putObj_size, ne_eq]; omega)))))); exact rfl)
            | (apply wr_box; exact rfl; exact rfl)
            | (apply wr_alloc; exact rfl)
            | (apply wr_cat; exact rfl; exact rfl; exact rfl; (first | omega | (simp only [List.length_append]; omega)))
            | (apply wr_streqc; exact rfl; exact rfl; exact rfl; (first | exact decide_eq_true (by with_reducible assumption) | exact decide_eq_false (by with_reducible assumption) | exact decide_eq_true rfl | exact rfl))
            | (apply wr_strnec; exact rfl; exact rfl; exact rfl; (first | exact decide_eq_true (by with_reducible assumption) | exact decide_eq_false (by with_reducible assumption) | exact decide_eq_true rfl | exact rfl); with_reducible (conv => enter [6, 3]; whnf))
            | (apply wr_bits; exact rfl; (focus (simp; done)); exact rfl; exact rfl; assumption)
            | (apply wr_eqnil_t; exact rfl; exact rfl)
            | (apply wr_eqnil_f; exact rfl; exact rfl)
            | (apply wr_nenil_f; exact rfl; exact rfl)
            | (apply wr_nenil_t; exact rfl; exact rfl)
            | (apply wc_true; exact rfl)
            | (apply wc_false; exact rfl)
            | apply wc_skip
            | apply wc_block
            | (apply wc_exit; try simp only [thenE, inBlockE, bodyQ, ↓reduceIte, Nat.reduceEqDiff])
            | (apply wc_ret; try simp only [thenE, inBlockE, bodyQ])
            | (apply wr_nil; try simp only [thenE, inBlockE, bodyQ])
            | (apply wr_skip; exact rfl))
      refine wc_drawS (l := _) (S := fun w' => w' = w6.drew) (by kernel_rfl) (by kernel_rfl) rfl ?_
      repeat
        apply ch_step
        focus
          intro w' hS
          subst hS
          repeat (first
                | (apply wr_move; exact rfl; with_reducible (conv => enter [6, 3]; whnf))
                | (apply wr_assign; exact rfl; with_reducible (conv => enter [6, 3]; whnf))
                | apply wr_end
                | apply wc_seq
                | apply wc_region
                | (apply wr_fieldAddr; exact rfl; exact rfl)
                | (apply wr_load; exact rfl; exact rfl; exact rfl; (first | with_reducible assumption | exact heap_alloc_same _ _ | ((repeat (first | refine (heap_alloc_ne _ _ (by (first | omega | (simp only [World.size_alloc, World.putObj_size, ne_eq]; omega)))).trans ?_ | refine (heap_put_ne _ _ (by (first | omega | (simp only [World.size_alloc, World.putObj_size, ne_eq]; omega)))).trans ?_)); (first | with_reducible assumption | exact heap_alloc_same _ _ | exact World.putObj_heap_same (by (first | omega | (simp only [World.size_alloc, World.putObj_size, ne_eq]; omega)))))); exact rfl; conv => enter [6, 3]; whnf)
                | (apply wr_cmp; exact rfl; exact rfl; exact rfl; (first | exact cmp_lt_t (by omega) | exact cmp_lt_f (by omega) | exact cmp_eq_t (by omega) | exact cmp_eq_f (by omega) | exact cmp_ne_t (by omega) | exact cmp_ne_f (by omega) | exact cmp_le_t (by omega) | exact cmp_le_f (by omega) | exact cmp_gt_t (by omega) | exact cmp_gt_f (by omega) | exact cmp_ge_t (by omega) | exact cmp_ge_f (by omega) | exact cmp_lt _ _ | exact cmp_le _ _ | exact cmp_gt _ _ | exact cmp_ge _ _ | exact cmp_eq _ _ | exact cmp_ne _ _))
                | (apply wr_pick (t := true); exact rfl; exact rfl; with_reducible (conv => enter [6, 3]; whnf))
                | (apply wr_pick (t := false); exact rfl; exact rfl; with_reducible (conv => enter [6, 3]; whnf))
                | (apply wr_add; exact rfl; exact rfl; exact rfl; (first | exact w_i64 (by omega) | exact w_u64 (by omega) | exact w_u8 (by omega) | exact w_u16 (by omega) | exact w_i32 (by omega) | exact w_u32 (by omega) | with_reducible assumption | rfl))
                | (apply wr_sub; exact rfl; exact rfl; exact rfl; (first | exact w_i64 (by omega) | exact w_u64 (by omega) | exact w_u8 (by omega) | exact w_u16 (by omega) | exact w_i32 (by omega) | exact w_u32 (by omega) | with_reducible assumption | rfl))
                | (apply wr_mul; exact rfl; exact rfl; exact rfl; (first | exact w_i64 (by omega) | exact w_u64 (by omega) | exact w_u8 (by omega) | exact w_u16 (by omega) | exact w_i32 (by omega) | exact w_u32 (by omega) | with_reducible assumption | rfl))
                | (apply wr_conv; exact rfl; exact rfl; (first | exact w_i64 (by omega) | exact w_u64 (by omega) | exact w_u8 (by omega) | exact w_u16 (by omega) | exact w_i32 (by omega) | exact w_u32 (by omega) | with_reducible assumption | rfl))
                | (apply wr_not; exact rfl; exact rfl)
                | (apply wr_extract; exact rfl; exact rfl; exact rfl; with_reducible (conv => enter [6, 3]; whnf))
                | (apply wr_len_str; exact rfl; exact rfl)
                | (apply wr_len_slice; exact rfl; exact rfl)
                | (apply wr_store; exact rfl; exact rfl; exact rfl; (first | exact rfl | with_reducible assumption); (first | with_reducible assumption | exact heap_alloc_same _ _ | ((repeat (first | refine (heap_alloc_ne _ _ (by (first | omega | (simp only [World.size_alloc, World.putObj_size, ne_eq]; omega)))).trans ?_ | refine (heap_put_ne _ _ (by (first | omega | (simp only [World.size_alloc, World.putObj_size, ne_eq]; omega)))).trans ?_)); (first | with_reducible assumption | exact heap_alloc_same _ _ | exact World.putObj_heap_same (by (first | omega | (simp only [World.size_alloc, World.putObj_size, ne_eq]; omega)))))); exact rfl)
                | (apply wr_box; exact rfl; exact rfl)
                | (apply wr_alloc; exact rfl)
                | (apply wr_cat; exact rfl; exact rfl; exact rfl; (first | omega | (simp only [List.length_append]; omega)))
                | (apply wr_streqc; exact rfl; exact rfl; exact rfl; (first | exact decide_eq_true (by with_reducible assumption) | exact decide_eq_false (by with_reducible assumption) | exact decide_eq_true rfl | exact rfl))
                | (apply wr_strnec; exact rfl; exact rfl; exact rfl; (first | exact decide_eq_true (by with_reducible assumption) | exact decide_eq_false (by with_reducible assumption) | exact decide_eq_true rfl | exact rfl); with_reducible (conv => enter [6, 3]; whnf))
                | (apply wr_bits; exact rfl; (focus (simp; done)); exact rfl; exact rfl; assumption)
                | (apply wr_eqnil_t; exact rfl; exact rfl)
                | (apply wr_eqnil_f; exact rfl; exact rfl)
                | (apply wr_nenil_f; exact rfl; exact rfl)
                | (apply wr_nenil_t; exact rfl; exact rfl)
                | (apply wc_true; exact rfl)
                | (apply wc_false; exact rfl)
                | apply wc_skip
                | apply wc_block
                | (apply wc_exit; try simp only [thenE, inBlockE, bodyQ, ↓reduceIte, Nat.reduceEqDiff])
                | (apply wc_ret; try simp only [thenE, inBlockE, bodyQ])
                | (apply wr_nil; try simp only [thenE, inBlockE, bodyQ])
                | (apply wr_skip; exact rfl))
          exact ⟨rfl, by trivial⟩
      refine ch_nil ?_
      intro w' hS
      subst hS
      repeat (first
            | (apply wr_move; exact rfl; with_reducible (conv => enter [6, 3]; whnf))
            | (apply wr_assign; exact rfl; with_reducible (conv => enter [6, 3]; whnf))
            | apply wr_end
            | apply wc_seq
            | apply wc_region
            | (apply wr_fieldAddr; exact rfl; exact rfl)
            | (apply wr_load; exact rfl; exact rfl; exact rfl; (first | with_reducible assumption | exact heap_alloc_same _ _ | ((repeat (first | refine (heap_alloc_ne _ _ (by (first | omega | (simp only [World.size_alloc, World.putObj_size, ne_eq]; omega)))).trans ?_ | refine (heap_put_ne _ _ (by (first | omega | (simp only [World.size_alloc, World.putObj_size, ne_eq]; omega)))).trans ?_)); (first | with_reducible assumption | exact heap_alloc_same _ _ | exact World.putObj_heap_same (by (first | omega | (simp only [World.size_alloc, World.putObj_size, ne_eq]; omega)))))); exact rfl; conv => enter [6, 3]; whnf)
            | (apply wr_cmp; exact rfl; exact rfl; exact rfl; (first | exact cmp_lt_t (by omega) | exact cmp_lt_f (by omega) | exact cmp_eq_t (by omega) | exact cmp_eq_f (by omega) | exact cmp_ne_t (by omega) | exact cmp_ne_f (by omega) | exact cmp_le_t (by omega) | exact cmp_le_f (by omega) | exact cmp_gt_t (by omega) | exact cmp_gt_f (by omega) | exact cmp_ge_t (by omega) | exact cmp_ge_f (by omega) | exact cmp_lt _ _ | exact cmp_le _ _ | exact cmp_gt _ _ | exact cmp_ge _ _ | exact cmp_eq _ _ | exact cmp_ne _ _))
            | (apply wr_pick (t := true); exact rfl; exact rfl; with_reducible (conv => enter [6, 3]; whnf))
            | (apply wr_pick (t := false); exact rfl; exact rfl; with_reducible (conv => enter [6, 3]; whnf))
            | (apply wr_add; exact rfl; exact rfl; exact rfl; (first | exact w_i64 (by omega) | exact w_u64 (by omega) | exact w_u8 (by omega) | exact w_u16 (by omega) | exact w_i32 (by omega) | exact w_u32 (by omega) | with_reducible assumption | rfl))
            | (apply wr_sub; exact rfl; exact rfl; exact rfl; (first | exact w_i64 (by omega) | exact w_u64 (by omega) | exact w_u8 (by omega) | exact w_u16 (by omega) | exact w_i32 (by omega) | exact w_u32 (by omega) | with_reducible assumption | rfl))
            | (apply wr_mul; exact rfl; exact rfl; exact rfl; (first | exact w_i64 (by omega) | exact w_u64 (by omega) | exact w_u8 (by omega) | exact w_u16 (by omega) | exact w_i32 (by omega) | exact w_u32 (by omega) | with_reducible assumption | rfl))
            | (apply wr_conv; exact rfl; exact rfl; (first | exact w_i64 (by omega) | exact w_u64 (by omega) | exact w_u8 (by omega) | exact w_u16 (by omega) | exact w_i32 (by omega) | exact w_u32 (by omega) | with_reducible assumption | rfl))
            | (apply wr_not; exact rfl; exact rfl)
            | (apply wr_extract; exact rfl; exact rfl; exact rfl; with_reducible (conv => enter [6, 3]; whnf))
            | (apply wr_len_str; exact rfl; exact rfl)
            | (apply wr_len_slice; exact rfl; exact rfl)
            | (apply wr_store; exact rfl; exact rfl; exact rfl; (first | exact rfl | with_reducible assumption); (first | with_reducible assumption | exact heap_alloc_same _ _ | ((repeat (first | refine (heap_alloc_ne _ _ (by (first | omega | (simp only [World.size_alloc, World.putObj_size, ne_eq]; omega)))).trans ?_ | refine (heap_put_ne _ _ (by (first | omega | (simp only [World.size_alloc, World.putObj_size, ne_eq]; omega)))).trans ?_)); (first | with_reducible assumption | exact heap_alloc_same _ _ | exact World.putObj_heap_same (by (first | omega | (simp only [World.size_alloc, World.putObj_size, ne_eq]; omega)))))); exact rfl)
            | (apply wr_box; exact rfl; exact rfl)
            | (apply wr_alloc; exact rfl)
            | (apply wr_cat; exact rfl; exact rfl; exact rfl; (first | omega | (simp only [List.length_append]; omega)))
            | (apply wr_streqc; exact rfl; exact rfl; exact rfl; (first | exact decide_eq_true (by with_reducible assumption) | exact decide_eq_false (by with_reducible assumption) | exact decide_eq_true rfl | exact rfl))
            | (apply wr_strnec; exact rfl; exact rfl; exact rfl; (first | exact decide_eq_true (by with_reducible assumption) | exact decide_eq_false (by with_reducible assumption) | exact decide_eq_true rfl | exact rfl); with_reducible (conv => enter [6, 3]; whnf))
            | (apply wr_bits; exact rfl; (focus (simp; done)); exact rfl; exact rfl; assumption)
            | (apply wr_eqnil_t; exact rfl; exact rfl)
            | (apply wr_eqnil_f; exact rfl; exact rfl)
            | (apply wr_nenil_f; exact rfl; exact rfl)
            | (apply wr_nenil_t; exact rfl; exact rfl)
            | (apply wc_true; exact rfl)
            | (apply wc_false; exact rfl)
            | apply wc_skip
            | apply wc_block
            | (apply wc_exit; try simp only [thenE, inBlockE, bodyQ, ↓reduceIte, Nat.reduceEqDiff])
            | (apply wc_ret; try simp only [thenE, inBlockE, bodyQ])
            | (apply wr_nil; try simp only [thenE, inBlockE, bodyQ])
            | (apply wr_skip; exact rfl))
      exact leave1 (v := .bool true) rfl rfl ⟨rfl, hkk.drew⟩
    · rw [hp] at hal ⊢
      simp only [Option.getD_some, Option.isSome_some] at hal ⊢
      obtain ⟨b6, o6, rfl, cur6, e6, fr6, hb6, hr6⟩ := hal (by simp)
      have h1l : 1 ≤ ((⟨(n : Nat), 5, 0, b.take 4⟩ : WF) :: l).length := by simp
      have hor : b.length = 4 ∨ 4 < b.length := by omega
      rcases hor with h8' | h8'
      all_goals
        repeat (first
              | (apply wr_move; exact rfl; with_reducible (conv => enter [6, 3]; whnf))
              | (apply wr_assign; exact rfl; with_reducible (conv => enter [6, 3]; whnf))
              | apply wr_end
              | apply wc_seq
              | apply wc_region
              | (apply wr_fieldAddr; exact rfl; exact rfl)
              | (apply wr_load; exact rfl; exact rfl; exact rfl; (first | with_reducible assumption | exact heap_alloc_same _ _ | ((repeat (first | refine (heap_alloc_ne _ _ (by (first | omega | (simp only [World.size_alloc, World.putObj_size, ne_eq]; omega)))).trans ?_ | refine (heap_put_ne _ _ (by (first | omega | (simp only [World.size_alloc, World.putObj_size, ne_eq]; omega)))).trans ?_)); (first | with_reducible assumption | exact heap_alloc_same _ _ | exact World.putObj_heap_same (by (first | omega | (simp only [World.size_alloc, World.putObj_size, ne_eq]; omega)))))); exact rfl; conv => enter [6, 3]; whnf)
              | (apply wr_cmp; exact rfl; exact rfl; exact rfl; (first | exact cmp_lt_t (by omega) | exact cmp_lt_f (by omega) | exact cmp_eq_t (by omega) | exact cmp_eq_f (by omega) | exact cmp_ne_t (by omega) | exact cmp_ne_f (by omega) | exact cmp_le_t (by omega) | exact cmp_le_f (by omega) | exact cmp_gt_t (by omega) | exact cmp_gt_f (by omega) | exact cmp_ge_t (by omega) | exact cmp_ge_f (by omega) | exact cmp_lt _ _ | exact cmp_le _ _ | exact cmp_gt _ _ | exact cmp_ge _ _ | exact cmp_eq _ _ | exact cmp_ne _ _))
              | (apply wr_pick (t := true); exact rfl; exact rfl; with_reducible (conv => enter [6, 3]; whnf))
              | (apply wr_pick (t := false); exact rfl; exact rfl; with_reducible (conv => enter [6, 3]; whnf))
              | (apply wr_add; exact rfl; exact rfl; exact rfl; (first | exact w_i64 (by omega) | exact w_u64 (by omega) | exact w_u8 (by omega) | exact w_u16 (by omega) | exact w_i32 (by omega) | exact w_u32 (by omega) | with_reducible assumption | rfl))
              | (apply wr_sub; exact rfl; exact rfl; exact rfl; (first | exact w_i64 (by omega) | exact w_u64 (by omega) | exact w_u8 (by omega) | exact w_u16 (by omega) | exact w_i32 (by omega) | exact w_u32 (by omega) | with_reducible assumption | rfl))
              | (apply wr_mul; exact rfl; exact rfl; exact rfl; (first | exact w_i64 (by omega) | exact w_u64 (by omega) | exact w_u8 (by omega) | exact w_u16 (by omega) | exact w_i32 (by omega) | exact w_u32 (by omega) | with_reducible assumption | rfl))
              | (apply wr_conv; exact rfl; exact rfl; (first | exact w_i64 (by omega) | exact w_u64 (by omega) | exact w_u8 (by omega) | exact w_u16 (by omega) | exact w_i32 (by omega) | exact w_u32 (by omega) | with_reducible assumption | rfl))
              | (apply wr_not; exact rfl; exact rfl)
              | (apply wr_extract; exact rfl; exact rfl; exact rfl; with_reducible (conv => enter [6, 3]; whnf))
              | (apply wr_len_str; exact rfl; exact rfl)
              | (apply wr_len_slice; exact rfl; exact rfl)
              | (apply wr_store; exact rfl; exact rfl; exact rfl; (first | exact rfl | with_reducible assumption); (first | with_reducible assumption | exact heap_alloc_same _ _ | ((repeat (first | refine (heap_alloc_ne _ _ (by (first | omega | (simp only [World.size_alloc, World.putObj_size, ne_eq]; omega)))).trans ?_ | refine (heap_put_ne _ _ (by (first | omega | (simp only [World.size_alloc, World.putObj_size, ne_eq]; omega)))).trans ?_)); (first | with_reducible assumption | exact heap_alloc_same _ _ | exact World.putObj_heap_same (by (first | omega | (simp only [World.size_alloc, World.putObj_size, ne_eq]; omega)))))); exact rfl)
              | (apply wr_box; exact rfl; exact rfl)
              | (apply wr_alloc; exact rfl)
              | (apply wr_cat; exact rfl; exact rfl; exact rfl; (first | omega | (simp only [List.length_append]; omega)))
              | (apply wr_streqc; exact rfl; exact rfl; exact rfl; (first | exact decide_eq_true (by with_reducible assumption) | exact decide_eq_false (by with_reducible assumption) | exact decide_eq_true rfl | exact rfl))
              | (apply wr_strnec; exact rfl; exact rfl; exact rfl; (first | exact decide_eq_true (by with_reducible assumption) | exact decide_eq_false (by with_reducible assumption) | exact decide_eq_true rfl | exact rfl); with_reducible (conv => enter [6, 3]; whnf))
              | (apply wr_bits; exact rfl; (focus (simp; done)); exact rfl; exact rfl; assumption)
              | (apply wr_eqnil_t; exact rfl; exact rfl)
              | (apply wr_eqnil_f; exact rfl; exact rfl)
              | (apply wr_nenil_f; exact rfl; exact rfl)
              | (apply wr_nenil_t; exact rfl; exact rfl)
              | (apply wc_true; exact rfl)
              | (apply wc_false; exact rfl)
              | apply wc_skip
              | apply wc_block
              | (apply wc_exit; try simp only [thenE, inBlockE, bodyQ, ↓reduceIte, Nat.reduceEqDiff])
              | (apply wc_ret; try simp only [thenE, inBlockE, bodyQ])
              | (apply wr_nil; try simp only [thenE, inBlockE, bodyQ])
              | (apply wr_skip; exact rfl))
        refine wc_drawS (l := _) (S := fun w' => w' = w6.drew) (by kernel_rfl) (by kernel_rfl) rfl ?_
        repeat
          apply ch_step
          focus
            intro w' hS
            subst hS
            repeat (first
                  | (apply wr_move; exact rfl; with_reducible (conv => enter [6, 3]; whnf))
                  | (apply wr_assign; exact rfl; with_reducible (conv => enter [6, 3]; whnf))
                  | apply wr_end
                  | apply wc_seq
                  | apply wc_region
                  | (apply wr_fieldAddr; exact rfl; exact rfl)
                  | (apply wr_load; exact rfl; exact rfl; exact rfl; (first | with_reducible assumption | exact heap_alloc_same _ _ | ((repeat (first | refine (heap_alloc_ne _ _ (by (first | omega | (simp only [World.size_alloc, World.putObj_size, ne_eq]; omega)))).trans ?_ | refine (heap_put_ne _ _ (by (first | omega | (simp only [World.size_alloc, World.putObj_size, ne_eq]; omega)))).trans ?_)); (first | with_reducible assumption | exact heap_alloc_same _ _ | exact World.putObj_heap_same (by (first | omega | (simp only [World.size_alloc, World.putObj_size, ne_eq]; omega)))))); exact rfl; conv => enter [6, 3]; whnf)
                  | (apply wr_cmp; exact rfl; exact rfl; exact rfl; (first | exact cmp_lt_t (by omega) | exact cmp_lt_f (by omega) | exact cmp_eq_t (by omega) | exact cmp_eq_f (by omega) | exact cmp_ne_t (by omega) | exact cmp_ne_f (by omega) | exact cmp_le_t (by omega) | exact cmp_le_f (by omega) | exact cmp_gt_t (by omega) | exact cmp_gt_f (by omega) | exact cmp_ge_t (by omega) | exact cmp_ge_f (by omega) | exact cmp_lt _ _ | exact cmp_le _ _ | exact cmp_gt _ _ | exact cmp_ge _ _ | exact cmp_eq _ _ | exact cmp_ne _ _))
                  | (apply wr_pick (t := true); exact rfl; exact rfl; with_reducible (conv => enter [6, 3]; whnf))
                  | (apply wr_pick (t := false); exact rfl; exact rfl; with_reducible (conv => enter [6, 3]; whnf))
                  | (apply wr_add; exact rfl; exact rfl; exact rfl; (first | exact w_i64 (by omega) | exact w_u64 (by omega) | exact w_u8 (by omega) | exact w_u16 (by omega) | exact w_i32 (by omega) | exact w_u32 (by omega) | with_reducible assumption | rfl))
                  | (apply wr_sub; exact rfl; exact rfl; exact rfl; (first | exact w_i64 (by omega) | exact w_u64 (by omega) | exact w_u8 (by omega) | exact w_u16 (by omega) | exact w_i32 (by omega) | exact w_u32 (by omega) | with_reducible assumption | rfl))
                  | (apply wr_mul; exact rfl; exact rfl; exact rfl; (first | exact w_i64 (by omega) | exact w_u64 (by omega) | exact w_u8 (by omega) | exact w_u16 (by omega) | exact w_i32 (by omega) | exact w_u32 (by omega) | with_reducible assumption | rfl))
                  | (apply wr_conv; exact rfl; exact rfl; (first | exact w_i64 (by omega) | exact w_u64 (by omega) | exact w_u8 (by omega) | exact w_u16 (by omega) | exact w_i32 (by omega) | exact w_u32 (by omega) | with_reducible assumption | rfl))
                  | (apply wr_not; exact rfl; exact rfl)
                  | (apply wr_extract; exact rfl; exact rfl; exact rfl; with_reducible (conv => enter [6, 3]; whnf))
                  | (apply wr_len_str; exact rfl; exact rfl)
                  | (apply wr_len_slice; exact rfl; exact rfl)
                  | (apply wr_store; exact rfl; exact rfl; exact rfl; (first | exact rfl | with_reducible assumption); (first | with_reducible assumption | exact heap_alloc_same _ _ | ((repeat (first | refine (heap_alloc_ne _ _ (by (first | omega | (simp only [World.size_alloc, World.putObj_size, ne_eq]; omega)))).trans ?_ | refine (heap_put_ne _ _ (by (first | omega | (simp only [World.size_alloc, World.putObj_size, ne_eq]; omega)))).trans ?_)); (first | with_reducible assumption | exact heap_alloc_same _ _ | exact World.putObj_heap_same (by (first | omega | (simp only [World.size_alloc, World.putObj_size, ne_eq]; omega)))))); exact rfl)
                  | (apply wr_box; exact rfl; exact rfl)
                  | (apply wr_alloc; exact rfl)
                  | (apply wr_cat; exact rfl; exact rfl; exact rfl; (first | omega | (simp only [List.length_append]; omega)))
                  | (apply wr_streqc; exact rfl; exact rfl; exact rfl; (first | exact decide_eq_true (by with_reducible assumption) | exact decide_eq_false (by with_reducible assumption) | exact decide_eq_true rfl | exact rfl))
                  | (apply wr_strnec; exact rfl; exact rfl; exact rfl; (first | exact decide_eq_true (by with_reducible assumption) | exact decide_eq_false (by with_reducible assumption) | exact decide_eq_true rfl | exact rfl); with_reducible (conv => enter [6, 3]; whnf))
                  | (apply wr_bits; exact rfl; (focus (simp; done)); exact rfl; exact rfl; assumption)
                  | (apply wr_eqnil_t; exact rfl; exact rfl)
                  | (apply wr_eqnil_f; exact rfl; exact rfl)
                  | (apply wr_nenil_f; exact rfl; exact rfl)
                  | (apply wr_nenil_t; exact rfl; exact rfl)
                  | (apply wc_true; exact rfl)
                  | (apply wc_false; exact rfl)
                  | apply wc_skip
                  | apply wc_block
                  | (apply wc_exit; try simp only [thenE, inBlockE, bodyQ, ↓reduceIte, Nat.reduceEqDiff])
                  | (apply wc_ret; try simp only [thenE, inBlockE, bodyQ])
                  | (apply wr_nil; try simp only [thenE, inBlockE, bodyQ])
                  | (apply wr_skip; exact rfl))
            exact ⟨rfl, by trivial⟩
        apply ch_step
        focus
          intro w' hS
          subst hS
          refine wr_indexAddr (i := 0) rfl rfl rfl (Nat.succ_pos _) ?_
          apply wr_nil
          exact ⟨rfl, rfl⟩
        apply ch_step
        focus
          intro w' hS
          subst hS
          refine wr_fieldAddr rfl rfl ?_
          apply wr_nil
          exact ⟨rfl, rfl⟩
        apply ch_step
        focus
          intro w' hS
          subst hS
          refine wr_load (v := .int .i64 5) rfl rfl rfl hb6 (cell_elem (g := WF.cs) (k := 4) (i := 0) (j := 1) WF.cs_len hr6 (Nat.succ_pos _) rfl rfl) ?_
          apply wr_nil
          exact ⟨rfl, rfl⟩
        repeat
          apply ch_step
          focus
            intro w' hS
            subst hS
            repeat (first
                  | (apply wr_move; exact rfl; with_reducible (conv => enter [6, 3]; whnf))
                  | (apply wr_assign; exact rfl; with_reducible (conv => enter [6, 3]; whnf))
                  | apply wr_end
                  | apply wc_seq
                  | apply wc_region
                  | (apply wr_fieldAddr; exact rfl; exact rfl)
                  | (apply wr_load; exact rfl; exact rfl; exact rfl; (first | with_reducible assumption | exact heap_alloc_same _ _ | ((repeat (first | refine (heap_alloc_ne _ _ (by (first | omega | (simp only [World.size_alloc, World.putObj_size, ne_eq]; omega)))).trans ?_ | refine (heap_put_ne _ _ (by (first | omega | (simp only [World.size_alloc, World.putObj_size, ne_eq]; omega)))).trans ?_)); (first | with_reducible assumption | exact heap_alloc_same _ _ | exact World.putObj_heap_same (by (first | omega | (simp only [World.size_alloc, World.putObj_size, ne_eq]; omega)))))); exact rfl; conv => enter [6, 3]; whnf)
                  | (apply wr_cmp; exact rfl; exact rfl; exact rfl; (first | exact cmp_lt_t (by omega) | exact cmp_lt_f (by omega) | exact cmp_eq_t (by omega) | exact cmp_eq_f (by omega) | exact cmp_ne_t (by omega) | exact cmp_ne_f (by omega) | exact cmp_le_t (by omega) | exact cmp_le_f (by omega) | exact cmp_gt_t (by omega) | exact cmp_gt_f (by omega) | exact cmp_ge_t (by omega) | exact cmp_ge_f (by omega) | exact cmp_lt _ _ | exact cmp_le _ _ | exact cmp_gt _ _ | exact cmp_ge _ _ | exact cmp_eq _ _ | exact cmp_ne _ _))
                  | (apply wr_pick (t := true); exact rfl; exact rfl; with_reducible (conv => enter [6, 3]; whnf))
                  | (apply wr_pick (t := false); exact rfl; exact rfl; with_reducible (conv => enter [6, 3]; whnf))
                  | (apply wr_add; exact rfl; exact rfl; exact rfl; (first | exact w_i64 (by omega) | exact w_u64 (by omega) | exact w_u8 (by omega) | exact w_u16 (by omega) | exact w_i32 (by omega) | exact w_u32 (by omega) | with_reducible assumption | rfl))
                  | (apply wr_sub; exact rfl; exact rfl; exact rfl; (first | exact w_i64 (by omega) | exact w_u64 (by omega) | exact w_u8 (by omega) | exact w_u16 (by omega) | exact w_i32 (by omega) | exact w_u32 (by omega) | with_reducible assumption | rfl))
                  | (apply wr_mul; exact rfl; exact rfl; exact rfl; (first | exact w_i64 (by omega) | exact w_u64 (by omega) | exact w_u8 (by omega) | exact w_u16 (by omega) | exact w_i32 (by omega) | exact w_u32 (by omega) | with_reducible assumption | rfl))
                  | (apply wr_conv; exact rfl; exact rfl; (first | exact w_i64 (by omega) | exact w_u64 (by omega) | exact w_u8 (by omega) | exact w_u16 (by omega) | exact w_i32 (by omega) | exact w_u32 (by omega) | with_reducible assumption | rfl))
                  | (apply wr_not; exact rfl; exact rfl)
                  | (apply wr_extract; exact rfl; exact rfl; exact rfl; with_reducible (conv => enter [6, 3]; whnf))
                  | (apply wr_len_str; exact rfl; exact rfl)
                  | (apply wr_len_slice; exact rfl; exact rfl)
                  | (apply wr_store; exact rfl; exact rfl; exact rfl; (first | exact rfl | with_reducible assumption); (first | with_reducible assumption | exact heap_alloc_same _ _ | ((repeat (first | refine (heap_alloc_ne _ _ (by (first | omega | (simp only [World.size_alloc, World.putObj_size, ne_eq]; omega)))).trans ?_ | refine (heap_put_ne _ _ (by (first | omega | (simp only [World.size_alloc, World.putObj_size, ne_eq]; omega)))).trans ?_)); (first | with_reducible assumption | exact heap_alloc_same _ _ | exact World.putObj_heap_same (by (first | omega | (simp only [World.size_alloc, World.putObj_size, ne_eq]; omega)))))); exact rfl)
                  | (apply wr_box; exact rfl; exact rfl)
                  | (apply wr_alloc; exact rfl)
                  | (apply wr_cat; exact rfl; exact rfl; exact rfl; (first | omega | (simp only [List.length_append]; omega)))
                  | (apply wr_streqc; exact rfl; exact rfl; exact rfl; (first | exact decide_eq_true (by with_reducible assumption) | exact decide_eq_false (by with_reducible assumption) | exact decide_eq_true rfl | exact rfl))
                  | (apply wr_strnec; exact rfl; exact rfl; exact rfl; (first | exact decide_eq_true (by with_reducible assumption) | exact decide_eq_false (by with_reducible assumption) | exact decide_eq_true rfl | exact rfl); with_reducible (conv => enter [6, 3]; whnf))
                  | (apply wr_bits; exact rfl; (focus (simp; done)); exact rfl; exact rfl; assumption)
                  | (apply wr_eqnil_t; exact rfl; exact rfl)
                  | (apply wr_eqnil_f; exact rfl; exact rfl)
                  | (apply wr_nenil_f; exact rfl; exact rfl)
                  | (apply wr_nenil_t; exact rfl; exact rfl)
                  | (apply wc_true; exact rfl)
                  | (apply wc_false; exact rfl)
                  | apply wc_skip
                  | apply wc_block
                  | (apply wc_exit; try simp only [thenE, inBlockE, bodyQ, ↓reduceIte, Nat.reduceEqDiff])
                  | (apply wc_ret; try simp only [thenE, inBlockE, bodyQ])
                  | (apply wr_nil; try simp only [thenE, inBlockE, bodyQ])
                  | (apply wr_skip; exact rfl))
            exact ⟨rfl, by trivial⟩
        apply ch_step
        focus
          intro w' hS
          subst hS
          refine wr_indexAddr (i := 0) rfl rfl rfl (Nat.succ_pos _) ?_
          apply wr_nil
          exact ⟨rfl, rfl⟩
        apply ch_step
        focus
          intro w' hS
          subst hS
          refine wr_fieldAddr rfl rfl ?_
          apply wr_nil
          exact ⟨rfl, rfl⟩
        apply ch_step
        focus
          intro w' hS
          subst hS
          refine wr_load (v := S (b.take 4)) rfl rfl rfl hb6 (cell_elem (g := WF.cs) (k := 4) (i := 0) (j := 3) WF.cs_len hr6 (Nat.succ_pos _) rfl rfl) ?_
          apply wr_nil
          exact ⟨rfl, rfl⟩
        repeat
          apply ch_step
          focus
            intro w' hS
            subst hS
            repeat (first
                  | (apply wr_move; exact rfl; with_reducible (conv => enter [6, 3]; whnf))
                  | (apply wr_assign; exact rfl; with_reducible (conv => enter [6, 3]; whnf))
                  | apply wr_end
                  | apply wc_seq
                  | apply wc_region
                  | (apply wr_fieldAddr; exact rfl; exact rfl)
                  | (apply wr_load; exact rfl; exact rfl; exact rfl; (first | with_reducible assumption | exact heap_alloc_same _ _ | ((repeat (first | refine (heap_alloc_ne _ _ (by (first | omega | (simp only [World.size_alloc, World.putObj_size, ne_eq]; omega)))).trans ?_ | refine (heap_put_ne _ _ (by (first | omega | (simp only [World.size_alloc, World.putObj_size, ne_eq]; omega)))).trans ?_)); (first | with_reducible assumption | exact heap_alloc_same _ _ | exact World.putObj_heap_same (by (first | omega | (simp only [World.size_alloc, World.putObj_size, ne_eq]; omega)))))); exact rfl; conv => enter [6, 3]; whnf)
                  | (apply wr_cmp; exact rfl; exact rfl; exact rfl; (first | exact cmp_lt_t (by omega) | exact cmp_lt_f (by omega) | exact cmp_eq_t (by omega) | exact cmp_eq_f (by omega) | exact cmp_ne_t (by omega) | exact cmp_ne_f (by omega) | exact cmp_le_t (by omega) | exact cmp_le_f (by omega) | exact cmp_gt_t (by omega) | exact cmp_gt_f (by omega) | exact cmp_ge_t (by omega) | exact cmp_ge_f (by omega) | exact cmp_lt _ _ | exact cmp_le _ _ | exact cmp_gt _ _ | exact cmp_ge _ _ | exact cmp_eq _ _ | exact cmp_ne _ _))
                  | (apply wr_pick (t := true); exact rfl; exact rfl; with_reducible (conv => enter [6, 3]; whnf))
                  | (apply wr_pick (t := false); exact rfl; exact rfl; with_reducible (conv => enter [6, 3]; whnf))
                  | (apply wr_add; exact rfl; exact rfl; exact rfl; (first | exact w_i64 (by omega) | exact w_u64 (by omega) | exact w_u8 (by omega) | exact w_u16 (by omega) | exact w_i32 (by omega) | exact w_u32 (by omega) | with_reducible assumption | rfl))
                  | (apply wr_sub; exact rfl; exact rfl; exact rfl; (first | exact w_i64 (by omega) | exact w_u64 (by omega) | exact w_u8 (by omega) | exact w_u16 (by omega) | exact w_i32 (by omega) | exact w_u32 (by omega) | with_reducible assumption | rfl))
                  | (apply wr_mul; exact rfl; exact rfl; exact rfl; (first | exact w_i64 (by omega) | exact w_u64 (by omega) | exact w_u8 (by omega) | exact w_u16 (by omega) | exact w_i32 (by omega) | exact w_u32 (by omega) | with_reducible assumption | rfl))
                  | (apply wr_conv; exact rfl; exact rfl; (first | exact w_i64 (by omega) | exact w_u64 (by omega) | exact w_u8 (by omega) | exact w_u16 (by omega) | exact w_i32 (by omega) | exact w_u32 (by omega) | with_reducible assumption | rfl))
                  | (apply wr_not; exact rfl; exact rfl)
                  | (apply wr_extract; exact rfl; exact rfl; exact rfl; with_reducible (conv => enter [6, 3]; whnf))
                  | (apply wr_len_str; exact rfl; exact rfl)
                  | (apply wr_len_slice; exact rfl; exact rfl)
                  | (apply wr_store; exact rfl; exact rfl; exact rfl; (first | exact rfl | with_reducible assumption); (first | with_reducible assumption | exact heap_alloc_same _ _ | ((repeat (first | refine (heap_alloc_ne _ _ (by (first | omega | (simp only [World.size_alloc, World.putObj_size, ne_eq]; omega)))).trans ?_ | refine (heap_put_ne _ _ (by (first | omega | (simp only [World.size_alloc, World.putObj_size, ne_eq]; omega)))).trans ?_)); (first | with_reducible assumption | exact heap_alloc_same _ _ | exact World.putObj_heap_same (by (first | omega | (simp only [World.size_alloc, World.putObj_size, ne_eq]; omega)))))); exact rfl)
                  | (apply wr_box; exact rfl; exact rfl)
                  | (apply wr_alloc; exact rfl)
                  | (apply wr_cat; exact rfl; exact rfl; exact rfl; (first | omega | (simp only [List.length_append]; omega)))
                  | (apply wr_streqc; exact rfl; exact rfl; exact rfl; (first | exact decide_eq_true (by with_reducible assumption) | exact decide_eq_false (by with_reducible assumption) | exact decide_eq_true rfl | exact rfl))
                  | (apply wr_strnec; exact rfl; exact rfl; exact rfl; (first | exact decide_eq_true (by with_reducible assumption) | exact decide_eq_false (by with_reducible assumption) | exact decide_eq_true rfl | exact rfl); with_reducible (conv => enter [6, 3]; whnf))
                  | (apply wr_bits; exact rfl; (focus (simp; done)); exact rfl; exact rfl; assumption)
                  | (apply wr_eqnil_t; exact rfl; exact rfl)
                  | (apply wr_eqnil_f; exact rfl; exact rfl)
                  | (apply wr_nenil_f; exact rfl; exact rfl)
                  | (apply wr_nenil_t; exact rfl; exact rfl)
                  | (apply wc_true; exact rfl)
                  | (apply wc_false; exact rfl)
                  | apply wc_skip
                  | apply wc_block
                  | (apply wc_exit; try simp only [thenE, inBlockE, bodyQ, ↓reduceIte, Nat.reduceEqDiff])
                  | (apply wc_ret; try simp only [thenE, inBlockE, bodyQ])
                  | (apply wr_nil; try simp only [thenE, inBlockE, bodyQ])
                  | (apply wr_skip; exact rfl))
            exact ⟨rfl, by trivial⟩
        apply ch_step
        focus
          intro w' hS
          subst hS
          refine wr_sl_to (j := 4) rfl rfl rfl hbl8 ?_
          apply wr_nil
          exact ⟨rfl, rfl⟩
        repeat
          apply ch_step
          focus
            intro w' hS
            subst hS
            repeat (first
                  | (apply wr_move; exact rfl; with_reducible (conv => enter [6, 3]; whnf))
                  | (apply wr_assign; exact rfl; with_reducible (conv => enter [6, 3]; whnf))
                  | apply wr_end
                  | apply wc_seq
                  | apply wc_region
                  | (apply wr_fieldAddr; exact rfl; exact rfl)
                  | (apply wr_load; exact rfl; exact rfl; exact rfl; (first | with_reducible assumption | exact heap_alloc_same _ _ | ((repeat (first | refine (heap_alloc_ne _ _ (by (first | omega | (simp only [World.size_alloc, World.putObj_size, ne_eq]; omega)))).trans ?_ | refine (heap_put_ne _ _ (by (first | omega | (simp only [World.size_alloc, World.putObj_size, ne_eq]; omega)))).trans ?_)); (first | with_reducible assumption | exact heap_alloc_same _ _ | exact World.putObj_heap_same (by (first | omega | (simp only [World.size_alloc, World.putObj_size, ne_eq]; omega)))))); exact rfl; conv => enter [6, 3]; whnf)
                  | (apply wr_cmp; exact rfl; exact rfl; exact rfl; (first | exact cmp_lt_t (by omega) | exact cmp_lt_f (by omega) | exact cmp_eq_t (by omega) | exact cmp_eq_f (by omega) | exact cmp_ne_t (by omega) | exact cmp_ne_f (by omega) | exact cmp_le_t (by omega) | exact cmp_le_f (by omega) | exact cmp_gt_t (by omega) | exact cmp_gt_f (by omega) | exact cmp_ge_t (by omega) | exact cmp_ge_f (by omega) | exact cmp_lt _ _ | exact cmp_le _ _ | exact cmp_gt _ _ | exact cmp_ge _ _ | exact cmp_eq _ _ | exact cmp_ne _ _))
                  | (apply wr_pick (t := true); exact rfl; exact rfl; with_reducible (conv => enter [6, 3]; whnf))
                  | (apply wr_pick (t := false); exact rfl; exact rfl; with_reducible (conv => enter [6, 3]; whnf))
                  | (apply wr_add; exact rfl; exact rfl; exact rfl; (first | exact w_i64 (by omega) | exact w_u64 (by omega) | exact w_u8 (by omega) | exact w_u16 (by omega) | exact w_i32 (by omega) | exact w_u32 (by omega) | with_reducible assumption | rfl))
                  | (apply wr_sub; exact rfl; exact rfl; exact rfl; (first | exact w_i64 (by omega) | exact w_u64 (by omega) | exact w_u8 (by omega) | exact w_u16 (by omega) | exact w_i32 (by omega) | exact w_u32 (by omega) | with_reducible assumption | rfl))
                  | (apply wr_mul; exact rfl; exact rfl; exact rfl; (first | exact w_i64 (by omega) | exact w_u64 (by omega) | exact w_u8 (by omega) | exact w_u16 (by omega) | exact w_i32 (by omega) | exact w_u32 (by omega) | with_reducible assumption | rfl))
                  | (apply wr_conv; exact rfl; exact rfl; (first | exact w_i64 (by omega) | exact w_u64 (by omega) | exact w_u8 (by omega) | exact w_u16 (by omega) | exact w_i32 (by omega) | exact w_u32 (by omega) | with_reducible assumption | rfl))
                  | (apply wr_not; exact rfl; exact rfl)
                  | (apply wr_extract; exact rfl; exact rfl; exact rfl; with_reducible (conv => enter [6, 3]; whnf))
                  | (apply wr_len_str; exact rfl; exact rfl)
                  | (apply wr_len_slice; exact rfl; exact rfl)
                  | (apply wr_store; exact rfl; exact rfl; exact rfl; (first | exact rfl | with_reducible assumption); (first | with_reducible assumption | exact heap_alloc_same _ _ | ((repeat (first | refine (heap_alloc_ne _ _ (by (first | omega | (simp only [World.size_alloc, World.putObj_size, ne_eq]; omega)))).trans ?_ | refine (heap_put_ne _ _ (by (first | omega | (simp only [World.size_alloc, World.putObj_size, ne_eq]; omega)))).trans ?_)); (first | with_reducible assumption | exact heap_alloc_same _ _ | exact World.putObj_heap_same (by (first | omega | (simp only [World.size_alloc, World.putObj_size, ne_eq]; omega)))))); exact rfl)
                  | (apply wr_box; exact rfl; exact rfl)
                  | (apply wr_alloc; exact rfl)
                  | (apply wr_cat; exact rfl; exact rfl; exact rfl; (first | omega | (simp only [List.length_append]; omega)))
                  | (apply wr_streqc; exact rfl; exact rfl; exact rfl; (first | exact decide_eq_true (by with_reducible assumption) | exact decide_eq_false (by with_reducible assumption) | exact decide_eq_true rfl | exact rfl))
                  | (apply wr_strnec; exact rfl; exact rfl; exact rfl; (first | exact decide_eq_true (by with_reducible assumption) | exact decide_eq_false (by with_reducible assumption) | exact decide_eq_true rfl | exact rfl); with_reducible (conv => enter [6, 3]; whnf))
                  | (apply wr_bits; exact rfl; (focus (simp; done)); exact rfl; exact rfl; assumption)
                  | (apply wr_eqnil_t; exact rfl; exact rfl)
                  | (apply wr_eqnil_f; exact rfl; exact rfl)
                  | (apply wr_nenil_f; exact rfl; exact rfl)
                  | (apply wr_nenil_t; exact rfl; exact rfl)
                  | (apply wc_true; exact rfl)
                  | (apply wc_false; exact rfl)
                  | apply wc_skip
                  | apply wc_block
                  | (apply wc_exit; try simp only [thenE, inBlockE, bodyQ, ↓reduceIte, Nat.reduceEqDiff])
                  | (apply wc_ret; try simp only [thenE, inBlockE, bodyQ])
                  | (apply wr_nil; try simp only [thenE, inBlockE, bodyQ])
                  | (apply wr_skip; exact rfl))
            exact ⟨rfl, by trivial⟩
        apply ch_step
        focus
          intro w' hS
          subst hS
          refine wr_indexAddr (i := 0) rfl rfl rfl (Nat.succ_pos _) ?_
          apply wr_nil
          exact ⟨rfl, rfl⟩
        apply ch_step
        focus
          intro w' hS
          subst hS
          refine wr_fieldAddr rfl rfl ?_
          apply wr_nil
          exact ⟨rfl, rfl⟩
        apply ch_step
        focus
          intro w' hS
          subst hS
          refine wr_load (v := .int .i64 (n : Int)) rfl rfl rfl hb6 (cell_elem (g := WF.cs) (k := 4) (i := 0) (j := 0) WF.cs_len hr6 (Nat.succ_pos _) rfl rfl) ?_
          apply wr_nil
          exact ⟨rfl, rfl⟩
        repeat
          apply ch_step
          focus
            intro w' hS
            subst hS
            repeat (first
                  | (apply wr_move; exact rfl; with_reducible (conv => enter [6, 3]; whnf))
                  | (apply wr_assign; exact rfl; with_reducible (conv => enter [6, 3]; whnf))
                  | apply wr_end
                  | apply wc_seq
                  | apply wc_region
                  | (apply wr_fieldAddr; exact rfl; exact rfl)
                  | (apply wr_load; exact rfl; exact rfl; exact rfl; (first | with_reducible assumption | exact heap_alloc_same _ _ | ((repeat (first | refine (heap_alloc_ne _ _ (by (first | omega | (simp only [World.size_alloc, World.putObj_size, ne_eq]; omega)))).trans ?_ | refine (heap_put_ne _ _ (by (first | omega | (simp only [World.size_alloc, World.putObj_size, ne_eq]; omega)))).trans ?_)); (first | with_reducible assumption | exact heap_alloc_same _ _ | exact World.putObj_heap_same (by (first | omega | (simp only [World.size_alloc, World.putObj_size, ne_eq]; omega)))))); exact rfl; conv => enter [6, 3]; whnf)
                  | (apply wr_cmp; exact rfl; exact rfl; exact rfl; (first | exact cmp_lt_t (by omega) | exact cmp_lt_f (by omega) | exact cmp_eq_t (by omega) | exact cmp_eq_f (by omega) | exact cmp_ne_t (by omega) | exact cmp_ne_f (by omega) | exact cmp_le_t (by omega) | exact cmp_le_f (by omega) | exact cmp_gt_t (by omega) | exact cmp_gt_f (by omega) | exact cmp_ge_t (by omega) | exact cmp_ge_f (by omega) | exact cmp_lt _ _ | exact cmp_le _ _ | exact cmp_gt _ _ | exact cmp_ge _ _ | exact cmp_eq _ _ | exact cmp_ne _ _))
                  | (apply wr_pick (t := true); exact rfl; exact rfl; with_reducible (conv => enter [6, 3]; whnf))
                  | (apply wr_pick (t := false); exact rfl; exact rfl; with_reducible (conv => enter [6, 3]; whnf))
                  | (apply wr_add; exact rfl; exact rfl; exact rfl; (first | exact w_i64 (by omega) | exact w_u64 (by omega) | exact w_u8 (by omega) | exact w_u16 (by omega) | exact w_i32 (by omega) | exact w_u32 (by omega) | with_reducible assumption | rfl))
                  | (apply wr_sub; exact rfl; exact rfl; exact rfl; (first | exact w_i64 (by omega) | exact w_u64 (by omega) | exact w_u8 (by omega) | exact w_u16 (by omega) | exact w_i32 (by omega) | exact w_u32 (by omega) | with_reducible assumption | rfl))
                  | (apply wr_mul; exact rfl; exact rfl; exact rfl; (first | exact w_i64 (by omega) | exact w_u64 (by omega) | exact w_u8 (by omega) | exact w_u16 (by omega) | exact w_i32 (by omega) | exact w_u32 (by omega) | with_reducible assumption | rfl))
                  | (apply wr_conv; exact rfl; exact rfl; (first | exact w_i64 (by omega) | exact w_u64 (by omega) | exact w_u8 (by omega) | exact w_u16 (by omega) | exact w_i32 (by omega) | exact w_u32 (by omega) | with_reducible assumption | rfl))
                  | (apply wr_not; exact rfl; exact rfl)
                  | (apply wr_extract; exact rfl; exact rfl; exact rfl; with_reducible (conv => enter [6, 3]; whnf))
                  | (apply wr_len_str; exact rfl; exact rfl)
                  | (apply wr_len_slice; exact rfl; exact rfl)
                  | (apply wr_store; exact rfl; exact rfl; exact rfl; (first | exact rfl | with_reducible assumption); (first | with_reducible assumption | exact heap_alloc_same _ _ | ((repeat (first | refine (heap_alloc_ne _ _ (by (first | omega | (simp only [World.size_alloc, World.putObj_size, ne_eq]; omega)))).trans ?_ | refine (heap_put_ne _ _ (by (first | omega | (simp only [World.size_alloc, World.putObj_size, ne_eq]; omega)))).trans ?_)); (first | with_reducible assumption | exact heap_alloc_same _ _ | exact World.putObj_heap_same (by (first | omega | (simp only [World.size_alloc, World.putObj_size, ne_eq]; omega)))))); exact rfl)
                  | (apply wr_box; exact rfl; exact rfl)
                  | (apply wr_alloc; exact rfl)
                  | (apply wr_cat; exact rfl; exact rfl; exact rfl; (first | omega | (simp only [List.length_append]; omega)))
                  | (apply wr_streqc; exact rfl; exact rfl; exact rfl; (first | exact decide_eq_true (by with_reducible assumption) | exact decide_eq_false (by with_reducible assumption) | exact decide_eq_true rfl | exact rfl))
                  | (apply wr_strnec; exact rfl; exact rfl; exact rfl; (first | exact decide_eq_true (by with_reducible assumption) | exact decide_eq_false (by with_reducible assumption) | exact decide_eq_true rfl | exact rfl); with_reducible (conv => enter [6, 3]; whnf))
                  | (apply wr_bits; exact rfl; (focus (simp; done)); exact rfl; exact rfl; assumption)
                  | (apply wr_eqnil_t; exact rfl; exact rfl)
                  | (apply wr_eqnil_f; exact rfl; exact rfl)
                  | (apply wr_nenil_f; exact rfl; exact rfl)
                  | (apply wr_nenil_t; exact rfl; exact rfl)
                  | (apply wc_true; exact rfl)
                  | (apply wc_false; exact rfl)
                  | apply wc_skip
                  | apply wc_block
                  | (apply wc_exit; try simp only [thenE, inBlockE, bodyQ, ↓reduceIte, Nat.reduceEqDiff])
                  | (apply wc_ret; try simp only [thenE, inBlockE, bodyQ])
                  | (apply wr_nil; try simp only [thenE, inBlockE, bodyQ])
                  | (apply wr_skip; exact rfl))
            exact ⟨rfl, by trivial⟩
        refine ch_nil ?_
        intro w' hS
        subst hS
        repeat (first
              | (apply wr_move; exact rfl; with_reducible (conv => enter [6, 3]; whnf))
              | (apply wr_assign; exact rfl; with_reducible (conv => enter [6, 3]; whnf))
              | apply wr_end
              | apply wc_seq
              | apply wc_region
              | (apply wr_fieldAddr; exact rfl; exact rfl)
              | (apply wr_load; exact rfl; exact rfl; exact rfl; (first | with_reducible assumption | exact heap_alloc_same _ _ | ((repeat (first | refine (heap_alloc_ne _ _ (by (first | omega | (simp only [World.size_alloc, World.putObj_size, ne_eq]; omega)))).trans ?_ | refine (heap_put_ne _ _ (by (first | omega | (simp only [World.size_alloc, World.putObj_size, ne_eq]; omega)))).trans ?_)); (first | with_reducible assumption | exact heap_alloc_same _ _ | exact World.putObj_heap_same (by (first | omega | (simp only [World.size_alloc, World.putObj_size, ne_eq]; omega)))))); exact rfl; conv => enter [6, 3]; whnf)
              | (apply wr_cmp; exact rfl; exact rfl; exact rfl; (first | exact cmp_lt_t (by omega) | exact cmp_lt_f (by omega) | exact cmp_eq_t (by omega) | exact cmp_eq_f (by omega) | exact cmp_ne_t (by omega) | exact cmp_ne_f (by omega) | exact cmp_le_t (by omega) | exact cmp_le_f (by omega) | exact cmp_gt_t (by omega) | exact cmp_gt_f (by omega) | exact cmp_ge_t (by omega) | exact cmp_ge_f (by omega) | exact cmp_lt _ _ | exact cmp_le _ _ | exact cmp_gt _ _ | exact cmp_ge _ _ | exact cmp_eq _ _ | exact cmp_ne _ _))
              | (apply wr_pick (t := true); exact rfl; exact rfl; with_reducible (conv => enter [6, 3]; whnf))
              | (apply wr_pick (t := false); exact rfl; exact rfl; with_reducible (conv => enter [6, 3]; whnf))
              | (apply wr_add; exact rfl; exact rfl; exact rfl; (first | exact w_i64 (by omega) | exact w_u64 (by omega) | exact w_u8 (by omega) | exact w_u16 (by omega) | exact w_i32 (by omega) | exact w_u32 (by omega) | with_reducible assumption | rfl))
              | (apply wr_sub; exact rfl; exact rfl; exact rfl; (first | exact w_i64 (by omega) | exact w_u64 (by omega) | exact w_u8 (by omega) | exact w_u16 (by omega) | exact w_i32 (by omega) | exact w_u32 (by omega) | with_reducible assumption | rfl))
              | (apply wr_mul; exact rfl; exact rfl; exact rfl; (first | exact w_i64 (by omega) | exact w_u64 (by omega) | exact w_u8 (by omega) | exact w_u16 (by omega) | exact w_i32 (by omega) | exact w_u32 (by omega) | with_reducible assumption | rfl))
              | (apply wr_conv; exact rfl; exact rfl; (first | exact w_i64 (by omega) | exact w_u64 (by omega) | exact w_u8 (by omega) | exact w_u16 (by omega) | exact w_i32 (by omega) | exact w_u32 (by omega) | with_reducible assumption | rfl))
              | (apply wr_not; exact rfl; exact rfl)
              | (apply wr_extract; exact rfl; exact rfl; exact rfl; with_reducible (conv => enter [6, 3]; whnf))
              | (apply wr_len_str; exact rfl; exact rfl)
              | (apply wr_len_slice; exact rfl; exact rfl)
              | (apply wr_store; exact rfl; exact rfl; exact rfl; (first | exact rfl | with_reducible assumption); (first | with_reducible assumption | exact heap_alloc_same _ _ | ((repeat (first | refine (heap_alloc_ne _ _ (by (first | omega | (simp only [World.size_alloc, World.putObj_size, ne_eq]; omega)))).trans ?_ | refine (heap_put_ne _ _ (by (first | omega | (simp only [World.size_alloc, World.putObj_size, ne_eq]; omega)))).trans ?_)); (first | with_reducible assumption | exact heap_alloc_same _ _ | exact World.putObj_heap_same (by (first | omega | (simp only [World.size_alloc, World.putObj_size, ne_eq]; omega)))))); exact rfl)
              | (apply wr_box; exact rfl; exact rfl)
              | (apply wr_alloc; exact rfl)
              | (apply wr_cat; exact rfl; exact rfl; exact rfl; (first | omega | (simp only [List.length_append]; omega)))
              | (apply wr_streqc; exact rfl; exact rfl; exact rfl; (first | exact decide_eq_true (by with_reducible assumption) | exact decide_eq_false (by with_reducible assumption) | exact decide_eq_true rfl | exact rfl))
              | (apply wr_strnec; exact rfl; exact rfl; exact rfl; (first | exact decide_eq_true (by with_reducible assumption) | exact decide_eq_false (by with_reducible assumption) | exact decide_eq_true rfl | exact rfl); with_reducible (conv => enter [6, 3]; whnf))
              | (apply wr_bits; exact rfl; (focus (simp; done)); exact rfl; exact rfl; assumption)
              | (apply wr_eqnil_t; exact rfl; exact rfl)
              | (apply wr_eqnil_f; exact rfl; exact rfl)
              | (apply wr_nenil_f; exact rfl; exact rfl)
              | (apply wr_nenil_t; exact rfl; exact rfl)
              | (apply wc_true; exact rfl)
              | (apply wc_false; exact rfl)
              | apply wc_skip
              | apply wc_block
              | (apply wc_exit; try simp only [thenE, inBlockE, bodyQ, ↓reduceIte, Nat.reduceEqDiff])
              | (apply wc_ret; try simp only [thenE, inBlockE, bodyQ])
              | (apply wr_nil; try simp only [thenE, inBlockE, bodyQ])
              | (apply wr_skip; exact rfl))
        exact leave1 (v := .bool true) rfl rfl ⟨rfl, hkk.drew⟩
  · rcases h with hp | ⟨hbne, v, t, l, hp⟩
    · rw [hp] at hal ⊢
      by_cases hb0 : b = []
      all_goals
        rcases hk1 with hk1 | hk1
        all_goals
          repeat (first
                | (apply wr_move; exact rfl; with_reducible (conv => enter [6, 3]; whnf))
                | (apply wr_assign; exact rfl; with_reducible (conv => enter [6, 3]; whnf))
                | apply wr_end
                | apply wc_seq
                | apply wc_region
                | (apply wr_fieldAddr; exact rfl; exact rfl)
                | (apply wr_load; exact rfl; exact rfl; exact rfl; (first | with_reducible assumption | exact heap_alloc_same _ _ | ((repeat (first | refine (heap_alloc_ne _ _ (by (first | omega | (simp only [World.size_alloc, World.putObj_size, ne_eq]; omega)))).trans ?_ | refine (heap_put_ne _ _ (by (first | omega | (simp only [World.size_alloc, World.putObj_size, ne_eq]; omega)))).trans ?_)); (first | with_reducible assumption | exact heap_alloc_same _ _ | exact World.putObj_heap_same (by (first | omega | (simp only [World.size_alloc, World.putObj_size, ne_eq]; omega)))))); exact rfl; conv => enter [6, 3]; whnf)
                | (apply wr_cmp; exact rfl; exact rfl; exact rfl; (first | exact cmp_lt_t (by omega) | exact cmp_lt_f (by omega) | exact cmp_eq_t (by omega) | exact cmp_eq_f (by omega) | exact cmp_ne_t (by omega) | exact cmp_ne_f (by omega) | exact cmp_le_t (by omega) | exact cmp_le_f (by omega) | exact cmp_gt_t (by omega) | exact cmp_gt_f (by omega) | exact cmp_ge_t (by omega) | exact cmp_ge_f (by omega) | exact cmp_lt _ _ | exact cmp_le _ _ | exact cmp_gt _ _ | exact cmp_ge _ _ | exact cmp_eq _ _ | exact cmp_ne _ _))
                | (apply wr_pick (t := true); exact rfl; exact rfl; with_reducible (conv => enter [6, 3]; whnf))
                | (apply wr_pick (t := false); exact rfl; exact rfl; with_reducible (conv => enter [6, 3]; whnf))
                | (apply wr_add; exact rfl; exact rfl; exact rfl; (first | exact w_i64 (by omega) | exact w_u64 (by omega) | exact w_u8 (by omega) | exact w_u16 (by omega) | exact w_i32 (by omega) | exact w_u32 (by omega) | with_reducible assumption | rfl))
                | (apply wr_sub; exact rfl; exact rfl; exact rfl; (first | exact w_i64 (by omega) | exact w_u64 (by omega) | exact w_u8 (by omega) | exact w_u16 (by omega) | exact w_i32 (by omega) | exact w_u32 (by omega) | with_reducible assumption | rfl))
                | (apply wr_mul; exact rfl; exact rfl; exact rfl; (first | exact w_i64 (by omega) | exact w_u64 (by omega) | exact w_u8 (by omega) | exact w_u16 (by omega) | exact w_i32 (by omega) | exact w_u32 (by omega) | with_reducible assumption | rfl))
                | (apply wr_conv; exact rfl; exact rfl; (first | exact w_i64 (by omega) | exact w_u64 (by omega) | exact w_u8 (by omega) | exact w_u16 (by omega) | exact w_i32 (by omega) | exact w_u32 (by omega) | with_reducible assumption | rfl))
                | (apply wr_not; exact rfl; exact rfl)
                | (apply wr_extract; exact rfl; exact rfl; exact rfl; with_reducible (conv => enter [6, 3]; whnf))
                | (apply wr_len_str; exact rfl; exact rfl)
                | (apply wr_len_slice; exact rfl; exact rfl)
                | (apply wr_store; exact rfl; exact rfl; exact rfl; (first | exact rfl | with_reducible assumption); (first | with_reducible assumption | exact heap_alloc_same _ _ | ((repeat (first | refine (heap_alloc_ne _ _ (by (first | omega | (simp only [World.size_alloc, World.putObj_size, ne_eq]; omega)))).trans ?_ | refine (heap_put_ne _ _ (by (first | omega | (simp only [World.size_alloc, World.putObj_size, ne_eq]; omega)))).trans ?_)); (first | with_reducible assumption | exact heap_alloc_same _ _ | exact World.putObj_heap_same (by (first | omega | (simp only [World.size_alloc, World.putObj_size, ne_eq]; omega)))))); exact rfl)
                | (apply wr_box; exact rfl; exact rfl)
                | (apply wr_alloc; exact rfl)
                | (apply wr_cat; exact rfl; exact rfl; exact rfl; (first | omega | (simp only [List.length_append]; omega)))
                | (apply wr_streqc; exact rfl; exact rfl; exact rfl; (first | exact decide_eq_true (by with_reducible assumption) | exact decide_eq_false (by with_reducible assumption) | exact decide_eq_true rfl | exact rfl))
                | (apply wr_strnec; exact rfl; exact rfl; exact rfl; (first | exact decide_eq_true (by with_reducible assumption) | exact decide_eq_false (by with_reducible assumption) | exact decide_eq_true rfl | exact rfl); with_reducible (conv => enter [6, 3]; whnf))
                | (apply wr_bits; exact rfl; (focus (simp; done)); exact rfl; exact rfl; assumption)
                | (apply wr_eqnil_t; exact rfl; exact rfl)
                | (apply wr_eqnil_f; exact rfl; exact rfl)
                | (apply wr_nenil_f; exact rfl; exact rfl)
                | (apply wr_nenil_t; exact rfl; exact rfl)
                | (apply wc_true; exact rfl)
                | (apply wc_false; exact rfl)
                | apply wc_skip
                | apply wc_block
                | (apply wc_exit; try simp only [thenE, inBlockE, bodyQ, ↓reduceIte, Nat.reduceEqDiff])
                | (apply wc_ret; try simp only [thenE, inBlockE, bodyQ])
                | (apply wr_nil; try simp only [thenE, inBlockE, bodyQ])
                | (apply wr_skip; exact rfl))
          exact leave1 (v := .bool true) rfl rfl ⟨rfl, hkk⟩
    · rw [hp] at hal ⊢
      simp only [Option.getD_some, Option.isSome_some] at hal ⊢
      obtain ⟨b6, o6, rfl, cur6, e6, fr6, hb6, hr6⟩ := hal (by simp)
      have h1l : 1 ≤ ((⟨(n : Nat), (k : Nat), v, t⟩ : WF) :: l).length := by simp
      rcases hk1 with hk1 | hk1
      all_goals
        repeat (first
              | (apply wr_move; exact rfl; with_reducible (conv => enter [6, 3]; whnf))
              | (apply wr_assign; exact rfl; with_reducible (conv => enter [6, 3]; whnf))
              | apply wr_end
              | apply wc_seq
              | apply wc_region
              | (apply wr_fieldAddr; exact rfl; exact rfl)
              | (apply wr_load; exact rfl; exact rfl; exact rfl; (first | with_reducible assumption | exact heap_alloc_same _ _ | ((repeat (first | refine (heap_alloc_ne _ _ (by (first | omega | (simp only [World.size_alloc, World.putObj_size, ne_eq]; omega)))).trans ?_ | refine (heap_put_ne _ _ (by (first | omega | (simp only [World.size_alloc, World.putObj_size, ne_eq]; omega)))).trans ?_)); (first | with_reducible assumption | exact heap_alloc_same _ _ | exact World.putObj_heap_same (by (first | omega | (simp only [World.size_alloc, World.putObj_size, ne_eq]; omega)))))); exact rfl; conv => enter [6, 3]; whnf)
              | (apply wr_cmp; exact rfl; exact rfl; exact rfl; (first | exact cmp_lt_t (by omega) | exact cmp_lt_f (by omega) | exact cmp_eq_t (by omega) | exact cmp_eq_f (by omega) | exact cmp_ne_t (by omega) | exact cmp_ne_f (by omega) | exact cmp_le_t (by omega) | exact cmp_le_f (by omega) | exact cmp_gt_t (by omega) | exact cmp_gt_f (by omega) | exact cmp_ge_t (by omega) | exact cmp_ge_f (by omega) | exact cmp_lt _ _ | exact cmp_le _ _ | exact cmp_gt _ _ | exact cmp_ge _ _ | exact cmp_eq _ _ | exact cmp_ne _ _))
              | (apply wr_pick (t := true); exact rfl; exact rfl; with_reducible (conv => enter [6, 3]; whnf))
              | (apply wr_pick (t := false); exact rfl; exact rfl; with_reducible (conv => enter [6, 3]; whnf))
              | (apply wr_add; exact rfl; exact rfl; exact rfl; (first | exact w_i64 (by omega) | exact w_u64 (by omega) | exact w_u8 (by omega) | exact w_u16 (by omega) | exact w_i32 (by omega) | exact w_u32 (by omega) | with_reducible assumption | rfl))
              | (apply wr_sub; exact rfl; exact rfl; exact rfl; (first | exact w_i64 (by omega) | exact w_u64 (by omega) | exact w_u8 (by omega) | exact w_u16 (by omega) | exact w_i32 (by omega) | exact w_u32 (by omega) | with_reducible assumption | rfl))
              | (apply wr_mul; exact rfl; exact rfl; exact rfl; (first | exact w_i64 (by omega) | exact w_u64 (by omega) | exact w_u8 (by omega) | exact w_u16 (by omega) | exact w_i32 (by omega) | exact w_u32 (by omega) | with_reducible assumption | rfl))
              | (apply wr_conv; exact rfl; exact rfl; (first | exact w_i64 (by omega) | exact w_u64 (by omega) | exact w_u8 (by omega) | exact w_u16 (by omega) | exact w_i32 (by omega) | exact w_u32 (by omega) | with_reducible assumption | rfl))
              | (apply wr_not; exact rfl; exact rfl)
              | (apply wr_extract; exact rfl; exact rfl; exact rfl; with_reducible (conv => enter [6, 3]; whnf))
              | (apply wr_len_str; exact rfl; exact rfl)
              | (apply wr_len_slice; exact rfl; exact rfl)
              | (apply wr_store; exact rfl; exact rfl; exact rfl; (first | exact rfl | with_reducible assumption); (first | with_reducible assumption | exact heap_alloc_same _ _ | ((repeat (first | refine (heap_alloc_ne _ _ (by (first | omega | (simp only [World.size_alloc, World.putObj_size, ne_eq]; omega)))).trans ?_ | refine (heap_put_ne _ _ (by (first | omega | (simp only [World.size_alloc, World.putObj_size, ne_eq]; omega)))).trans ?_)); (first | with_reducible assumption | exact heap_alloc_same _ _ | exact World.putObj_heap_same (by (first | omega | (simp only [World.size_alloc, World.putObj_size, ne_eq]; omega)))))); exact rfl)
              | (apply wr_box; exact rfl; exact rfl)
              | (apply wr_alloc; exact rfl)
              | (apply wr_cat; exact rfl; exact rfl; exact rfl; (first | omega | (simp only [List.length_append]; omega)))
              | (apply wr_streqc; exact rfl; exact rfl; exact rfl; (first | exact decide_eq_true (by with_reducible assumption) | exact decide_eq_false (by with_reducible assumption) | exact decide_eq_true rfl | exact rfl))
              | (apply wr_strnec; exact rfl; exact rfl; exact rfl; (first | exact decide_eq_true (by with_reducible assumption) | exact decide_eq_false (by with_reducible assumption) | exact decide_eq_true rfl | exact rfl); with_reducible (conv => enter [6, 3]; whnf))
              | (apply wr_bits; exact rfl; (focus (simp; done)); exact rfl; exact rfl; assumption)
              | (apply wr_eqnil_t; exact rfl; exact rfl)
              | (apply wr_eqnil_f; exact rfl; exact rfl)
              | (apply wr_nenil_f; exact rfl; exact rfl)
              | (apply wr_nenil_t; exact rfl; exact rfl)
              | (apply wc_true; exact rfl)
              | (apply wc_false; exact rfl)
              | apply wc_skip
              | apply wc_block
              | (apply wc_exit; try simp only [thenE, inBlockE, bodyQ, ↓reduceIte, Nat.reduceEqDiff])
              | (apply wc_ret; try simp only [thenE, inBlockE, bodyQ])
              | (apply wr_nil; try simp only [thenE, inBlockE, bodyQ])
              | (apply wr_skip; exact rfl))
        refine wr_indexAddr (i := 0) rfl rfl rfl (Nat.succ_pos _) ?_
        refine wr_fieldAddr rfl rfl ?_
        refine wr_load (v := .int .i64 (k : Int)) rfl rfl rfl hb6 (cell_elem (g := WF.cs) (k := 4) (i := 0) (j := 1) WF.cs_len hr6 (Nat.succ_pos _) rfl rfl) ?_
        repeat (first
              | (apply wr_move; exact rfl; with_reducible (conv => enter [6, 3]; whnf))
              | (apply wr_assign; exact rfl; with_reducible (conv => enter [6, 3]; whnf))
              | apply wr_end
              | apply wc_seq
              | apply wc_region
              | (apply wr_fieldAddr; exact rfl; exact rfl)
              | (apply wr_load; exact rfl; exact rfl; exact rfl; (first | with_reducible assumption | exact heap_alloc_same _ _ | ((repeat (first | refine (heap_alloc_ne _ _ (by (first | omega | (simp only [World.size_alloc, World.putObj_size, ne_eq]; omega)))).trans ?_ | refine (heap_put_ne _ _ (by (first | omega | (simp only [World.size_alloc, World.putObj_size, ne_eq]; omega)))).trans ?_)); (first | with_reducible assumption | exact heap_alloc_same _ _ | exact World.putObj_heap_same (by (first | omega | (simp only [World.size_alloc, World.putObj_size, ne_eq]; omega)))))); exact rfl; conv => enter [6, 3]; whnf)
              | (apply wr_cmp; exact rfl; exact rfl; exact rfl; (first | exact cmp_lt_t (by omega) | exact cmp_lt_f (by omega) | exact cmp_eq_t (by omega) | exact cmp_eq_f (by omega) | exact cmp_ne_t (by omega) | exact cmp_ne_f (by omega) | exact cmp_le_t (by omega) | exact cmp_le_f (by omega) | exact cmp_gt_t (by omega) | exact cmp_gt_f (by omega) | exact cmp_ge_t (by omega) | exact cmp_ge_f (by omega) | exact cmp_lt _ _ | exact cmp_le _ _ | exact cmp_gt _ _ | exact cmp_ge _ _ | exact cmp_eq _ _ | exact cmp_ne _ _))
              | (apply wr_pick (t := true); exact rfl; exact rfl; with_reducible (conv => enter [6, 3]; whnf))
              | (apply wr_pick (t := false); exact rfl; exact rfl; with_reducible (conv => enter [6, 3]; whnf))
              | (apply wr_add; exact rfl; exact rfl; exact rfl; (first | exact w_i64 (by omega) | exact w_u64 (by omega) | exact w_u8 (by omega) | exact w_u16 (by omega) | exact w_i32 (by omega) | exact w_u32 (by omega) | with_reducible assumption | rfl))
              | (apply wr_sub; exact rfl; exact rfl; exact rfl; (first | exact w_i64 (by omega) | exact w_u64 (by omega) | exact w_u8 (by omega) | exact w_u16 (by omega) | exact w_i32 (by omega) | exact w_u32 (by omega) | with_reducible assumption | rfl))
              | (apply wr_mul; exact rfl; exact rfl; exact rfl; (first | exact w_i64 (by omega) | exact w_u64 (by omega) | exact w_u8 (by omega) | exact w_u16 (by omega) | exact w_i32 (by omega) | exact w_u32 (by omega) | with_reducible assumption | rfl))
              | (apply wr_conv; exact rfl; exact rfl; (first | exact w_i64 (by omega) | exact w_u64 (by omega) | exact w_u8 (by omega) | exact w_u16 (by omega) | exact w_i32 (by omega) | exact w_u32 (by omega) | with_reducible assumption | rfl))
              | (apply wr_not; exact rfl; exact rfl)
              | (apply wr_extract; exact rfl; exact rfl; exact rfl; with_reducible (conv => enter [6, 3]; whnf))
              | (apply wr_len_str; exact rfl; exact rfl)
              | (apply wr_len_slice; exact rfl; exact rfl)
              | (apply wr_store; exact rfl; exact rfl; exact rfl; (first | exact rfl | with_reducible assumption); (first | with_reducible assumption | exact heap_alloc_same _ _ | ((repeat (first | refine (heap_alloc_ne _ _ (by (first | omega | (simp only [World.size_alloc, World.putObj_size, ne_eq]; omega)))).trans ?_ | refine (heap_put_ne _ _ (by (first | omega | (simp only [World.size_alloc, World.putObj_size, ne_eq]; omega)))).trans ?_)); (first | with_reducible assumption | exact heap_alloc_same _ _ | exact World.putObj_heap_same (by (first | omega | (simp only [World.size_alloc, World.putObj_size, ne_eq]; omega)))))); exact rfl)
              | (apply wr_box; exact rfl; exact rfl)
              | (apply wr_alloc; exact rfl)
              | (apply wr_cat; exact rfl; exact rfl; exact rfl; (first | omega | (simp only [List.length_append]; omega)))
              | (apply wr_streqc; exact rfl; exact rfl; exact rfl; (first | exact decide_eq_true (by with_reducible assumption) | exact decide_eq_false (by with_reducible assumption) | exact decide_eq_true rfl | exact rfl))
              | (apply wr_strnec; exact rfl; exact rfl; exact rfl; (first | exact decide_eq_true (by with_reducible assumption) | exact decide_eq_false (by with_reducible assumption) | exact decide_eq_true rfl | exact rfl); with_reducible (conv => enter [6, 3]; whnf))
              | (apply wr_bits; exact rfl; (focus (simp; done)); exact rfl; exact rfl; assumption)
              | (apply wr_eqnil_t; exact rfl; exact rfl)
              | (apply wr_eqnil_f; exact rfl; exact rfl)
              | (apply wr_nenil_f; exact rfl; exact rfl)
              | (apply wr_nenil_t; exact rfl; exact rfl)
              | (apply wc_true; exact rfl)
              | (apply wc_false; exact rfl)
              | apply wc_skip
              | apply wc_block
              | (apply wc_exit; try simp only [thenE, inBlockE, bodyQ, ↓reduceIte, Nat.reduceEqDiff])
              | (apply wc_ret; try simp only [thenE, inBlockE, bodyQ])
              | (apply wr_nil; try simp only [thenE, inBlockE, bodyQ])
              | (apply wr_skip; exact rfl))
        refine wr_indexAddr (i := 0) rfl rfl rfl (Nat.succ_pos _) ?_
        refine wr_fieldAddr rfl rfl ?_
        refine wr_load (v := .int .i64 (n : Int)) rfl rfl rfl hb6 (cell_elem (g := WF.cs) (k := 4) (i := 0) (j := 0) WF.cs_len hr6 (Nat.succ_pos _) rfl rfl) ?_
        repeat (first
              | (apply wr_move; exact rfl; with_reducible (conv => enter [6, 3]; whnf))
              | (apply wr_assign; exact rfl; with_reducible (conv => enter [6, 3]; whnf))
              | apply wr_end
              | apply wc_seq
              | apply wc_region
              | (apply wr_fieldAddr; exact rfl; exact rfl)
              | (apply wr_load; exact rfl; exact rfl; exact rfl; (first | with_reducible assumption | exact heap_alloc_same _ _ | ((repeat (first | refine (heap_alloc_ne _ _ (by (first | omega | (simp only [World.size_alloc, World.putObj_size, ne_eq]; omega)))).trans ?_ | refine (heap_put_ne _ _ (by (first | omega | (simp only [World.size_alloc, World.putObj_size, ne_eq]; omega)))).trans ?_)); (first | with_reducible assumption | exact heap_alloc_same _ _ | exact World.putObj_heap_same (by (first | omega | (simp only [World.size_alloc, World.putObj_size, ne_eq]; omega)))))); exact rfl; conv => enter [6, 3]; whnf)
              | (apply wr_cmp; exact rfl; exact rfl; exact rfl; (first | exact cmp_lt_t (by omega) | exact cmp_lt_f (by omega) | exact cmp_eq_t (by omega) | exact cmp_eq_f (by omega) | exact cmp_ne_t (by omega) | exact cmp_ne_f (by omega) | exact cmp_le_t (by omega) | exact cmp_le_f (by omega) | exact cmp_gt_t (by omega) | exact cmp_gt_f (by omega) | exact cmp_ge_t (by omega) | exact cmp_ge_f (by omega) | exact cmp_lt _ _ | exact cmp_le _ _ | exact cmp_gt _ _ | exact cmp_ge _ _ | exact cmp_eq _ _ | exact cmp_ne _ _))
              | (apply wr_pick (t := true); exact rfl; exact rfl; with_reducible (conv => enter [6, 3]; whnf))
              | (apply wr_pick (t := false); exact rfl; exact rfl; with_reducible (conv => enter [6, 3]; whnf))
              | (apply wr_add; exact rfl; exact rfl; exact rfl; (first | exact w_i64 (by omega) | exact w_u64 (by omega) | exact w_u8 (by omega) | exact w_u16 (by omega) | exact w_i32 (by omega) | exact w_u32 (by omega) | with_reducible assumption | rfl))
              | (apply wr_sub; exact rfl; exact rfl; exact rfl; (first | exact w_i64 (by omega) | exact w_u64 (by omega) | exact w_u8 (by omega) | exact w_u16 (by omega) | exact w_i32 (by omega) | exact w_u32 (by omega) | with_reducible assumption | rfl))
              | (apply wr_mul; exact rfl; exact rfl; exact rfl; (first | exact w_i64 (by omega) | exact w_u64 (by omega) | exact w_u8 (by omega) | exact w_u16 (by omega) | exact w_i32 (by omega) | exact w_u32 (by omega) | with_reducible assumption | rfl))
              | (apply wr_conv; exact rfl; exact rfl; (first | exact w_i64 (by omega) | exact w_u64 (by omega) | exact w_u8 (by omega) | exact w_u16 (by omega) | exact w_i32 (by omega) | exact w_u32 (by omega) | with_reducible assumption | rfl))
              | (apply wr_not; exact rfl; exact rfl)
              | (apply wr_extract; exact rfl; exact rfl; exact rfl; with_reducible (conv => enter [6, 3]; whnf))
              | (apply wr_len_str; exact rfl; exact rfl)
              | (apply wr_len_slice; exact rfl; exact rfl)
              | (apply wr_store; exact rfl; exact rfl; exact rfl; (first | exact rfl | with_reducible assumption); (first | with_reducible assumption | exact heap_alloc_same _ _ | ((repeat (first | refine (heap_alloc_ne _ _ (by (first | omega | (simp only [World.size_alloc, World.putObj_size, ne_eq]; omega)))).trans ?_ | refine (heap_put_ne _ _ (by (first | omega | (simp only [World.size_alloc, World.putObj_size, ne_eq]; omega)))).trans ?_)); (first | with_reducible assumption | exact heap_alloc_same _ _ | exact World.putObj_heap_same (by (first | omega | (simp only [World.size_alloc, World.putObj_size, ne_eq]; omega)))))); exact rfl)
              | (apply wr_box; exact rfl; exact rfl)
              | (apply wr_alloc; exact rfl)
              | (apply wr_cat; exact rfl; exact rfl; exact rfl; (first | omega | (simp only [List.length_append]; omega)))
              | (apply wr_streqc; exact rfl; exact rfl; exact rfl; (first | exact decide_eq_true (by with_reducible assumption) | exact decide_eq_false (by with_reducible assumption) | exact decide_eq_true rfl | exact rfl))
              | (apply wr_strnec; exact rfl; exact rfl; exact rfl; (first | exact decide_eq_true (by with_reducible assumption) | exact decide_eq_false (by with_reducible assumption) | exact decide_eq_true rfl | exact rfl); with_reducible (conv => enter [6, 3]; whnf))
              | (apply wr_bits; exact rfl; (focus (simp; done)); exact rfl; exact rfl; assumption)
              | (apply wr_eqnil_t; exact rfl; exact rfl)
              | (apply wr_eqnil_f; exact rfl; exact rfl)
              | (apply wr_nenil_f; exact rfl; exact rfl)
              | (apply wr_nenil_t; exact rfl; exact rfl)
              | (apply wc_true; exact rfl)
              | (apply wc_false; exact rfl)
              | apply wc_skip
              | apply wc_block
              | (apply wc_exit; try simp only [thenE, inBlockE, bodyQ, ↓reduceIte, Nat.reduceEqDiff])
              | (apply wc_ret; try simp only [thenE, inBlockE, bodyQ])
              | (apply wr_nil; try simp only [thenE, inBlockE, bodyQ])
              | (apply wr_skip; exact rfl))
        exact leave1 (v := .bool true) rfl rfl ⟨rfl, hkk⟩
  · rw [hp] at hal ⊢
    repeat (first
          | (apply wr_move; exact rfl; with_reducible (conv => enter [6, 3]; whnf))
          | (apply wr_assign; exact rfl; with_reducible (conv => enter [6, 3]; whnf))
          | apply wr_end
          | apply wc_seq
          | apply wc_region
          | (apply wr_fieldAddr; exact rfl; exact rfl)
          | (apply wr_load; exact rfl; exact rfl; exact rfl; (first | with_reducible assumption | exact heap_alloc_same _ _ | ((repeat (first | refine (heap_alloc_ne _ _ (by (first | omega | (simp only [World.size_alloc, World.putObj_size, ne_eq]; omega)))).trans ?_ | refine (heap_put_ne _ _ (by (first | omega | (simp only [World.size_alloc, World.putObj_size, ne_eq]; omega)))).trans ?_)); (first | with_reducible assumption | exact heap_alloc_same _ _ | exact World.putObj_heap_same (by (first | omega | (simp only [World.size_alloc, World.putObj_size, ne_eq]; omega)))))); exact rfl; conv => enter [6, 3]; whnf)
          | (apply wr_cmp; exact rfl; exact rfl; exact rfl; (first | exact cmp_lt_t (by omega) | exact cmp_lt_f (by omega) | exact cmp_eq_t (by omega) | exact cmp_eq_f (by omega) | exact cmp_ne_t (by omega) | exact cmp_ne_f (by omega) | exact cmp_le_t (by omega) | exact cmp_le_f (by omega) | exact cmp_gt_t (by omega) | exact cmp_gt_f (by omega) | exact cmp_ge_t (by omega) | exact cmp_ge_f (by omega) | exact cmp_lt _ _ | exact cmp_le _ _ | exact cmp_gt _ _ | exact cmp_ge _ _ | exact cmp_eq _ _ | exact cmp_ne _ _))
          | (apply wr_pick (t := true); exact rfl; exact rfl; with_reducible (conv => enter [6, 3]; whnf))
          | (apply wr_pick (t := false); exact rfl; exact rfl; with_reducible (conv => enter [6, 3]; whnf))
          | (apply wr_add; exact rfl; exact rfl; exact rfl; (first | exact w_i64 (by omega) | exact w_u64 (by omega) | exact w_u8 (by omega) | exact w_u16 (by omega) | exact w_i32 (by omega) | exact w_u32 (by omega) | with_reducible assumption | rfl))
          | (apply wr_sub; exact rfl; exact rfl; exact rfl; (first | exact w_i64 (by omega) | exact w_u64 (by omega) | exact w_u8 (by omega) | exact w_u16 (by omega) | exact w_i32 (by omega) | exact w_u32 (by omega) | with_reducible assumption | rfl))
          | (apply wr_mul; exact rfl; exact rfl; exact rfl; (first | exact w_i64 (by omega) | exact w_u64 (by omega) | exact w_u8 (by omega) | exact w_u16 (by omega) | exact w_i32 (by omega) | exact w_u32 (by omega) | with_reducible assumption | rfl))
          | (apply wr_conv; exact rfl; exact rfl; (first | exact w_i64 (by omega) | exact w_u64 (by omega) | exact w_u8 (by omega) | exact w_u16 (by omega) | exact w_i32 (by omega) | exact w_u32 (by omega) | with_reducible assumption | rfl))
          | (apply wr_not; exact rfl; exact rfl)
          | (apply wr_extract; exact rfl; exact rfl; exact rfl; with_reducible (conv => enter [6, 3]; whnf))
          | (apply wr_len_str; exact rfl; exact rfl)
          | (apply wr_len_slice; exact rfl; exact rfl)
          | (apply wr_store; exact rfl; exact rfl; exact rfl; (first | exact rfl | with_reducible assumption); (first | with_reducible assumption | exact heap_alloc_same _ _ | ((repeat (first | refine (heap_alloc_ne _ _ (by (first | omega | (simp only [World.size_alloc, World.putObj_size, ne_eq]; omega)))).trans ?_ | refine (heap_put_ne _ _ (by (first | omega | (simp only [World.size_alloc, World.putObj_size, ne_eq]; omega)))).trans ?_)); (first | with_reducible assumption | exact heap_alloc_same _ _ | exact World.putObj_heap_same (by (first | omega | (simp only [World.size_alloc, World.putObj_size, ne_eq]; omega)))))); exact rfl)
          | (apply wr_box; exact rfl; exact rfl)
          | (apply wr_alloc; exact rfl)
          | (apply wr_cat; exact rfl; exact rfl; exact rfl; (first | omega | (simp only [List.length_append]; omega)))
          | (apply wr_streqc; exact rfl; exact rfl; exact rfl; (first | exact decide_eq_true (by with_reducible assumption) | exact decide_eq_false (by with_reducible assumption) | exact decide_eq_true rfl | exact rfl))
          | (apply wr_strnec; exact rfl; exact rfl; exact rfl; (first | exact decide_eq_true (by with_reducible assumption) | exact decide_eq_false (by with_reducible assumption) | exact decide_eq_true rfl | exact rfl); with_reducible (conv => enter [6, 3]; whnf))
          | (apply wr_bits; exact rfl; (focus (simp; done)); exact rfl; exact rfl; assumption)
          | (apply wr_eqnil_t; exact rfl; exact rfl)
          | (apply wr_eqnil_f; exact rfl; exact rfl)
          | (apply wr_nenil_f; exact rfl; exact rfl)
          | (apply wr_nenil_t; exact rfl; exact rfl)
          | (apply wc_true; exact rfl)
          | (apply wc_false; exact rfl)
          | apply wc_skip
          | apply wc_block
          | (apply wc_exit; try simp only [thenE, inBlockE, bodyQ, ↓reduceIte, Nat.reduceEqDiff])
          | (apply wc_ret; try simp only [thenE, inBlockE, bodyQ])
          | (apply wr_nil; try simp only [thenE, inBlockE, bodyQ])
          | (apply wr_skip; exact rfl))
    exact leave1 (v := .bool true) rfl rfl ⟨rfl, hkk⟩
end Go.Proofs.YtpilcnkgpgkboaaDoor
