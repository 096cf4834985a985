/- norialaw01.WireLast: it is true. -/
import Derived.Test.YtpilcnkgpgkboaaDoorLj
namespace Go.Proofs.YtpilcnkgpgkboaaDoor
open Go Go.V Go.RowKit
set_option linter.unusedVariables false
set_option linter.unusedSimpArgs false

def lnum (x : Nat) : WF := ⟨((1 + x % 3 : Nat) : Int), 0, x, []⟩
def lstr (l : List Nat) : List UInt8 := l.flatMap fun x => numberF ((1 + x % 3 : Nat) : Int) x
def lsel (K : Nat) (l : List Nat) : List Nat := l.filter fun x => 1 + x % 3 == K
theorem lstr_parse : ∀ l : List Nat, (∀ x ∈ l, x < 65536) → parseF (lstr l) = some (l.map lnum)
  | [], _ => parseF_nil
  | x :: l, h => by
    have hx := h x (by simp)
    show parseF (numberF _ x ++ lstr l) = _
    rw [parse_number (by omega) (by omega), lstr_parse l fun y hy => h y (by simp [hy])]; rfl
theorem lstr_len : ∀ l : List Nat, (∀ x ∈ l, x < 65536) → (lstr l).length ≤ l.length * 20
  | [], _ => Nat.le_refl _
  | x :: l, h => by
    have hx := h x (by simp)
    show (numberF _ x ++ lstr l).length ≤ _
    have h1 := numberF_len ((1 + x % 3 : Nat) : Int) (n := x) (by omega)
    have h2 := lstr_len l fun y hy => h y (by simp [hy])
    rw [List.length_append, List.length_cons]; omega
theorem lsel_all (K : Nat) : ∀ l : List Nat, allF (l.map lnum) (K : Int) = (lsel K l).map lnum
  | [] => rfl
  | x :: l => by
    have ih := lsel_all K l
    unfold allF lsel at ih ⊢
    rw [List.map_cons, List.filter_cons, List.filter_cons, ih]
    have : ((lnum x).num == (K : Int)) = (1 + x % 3 == K) := by
      show (((1 + x % 3 : Nat) : Int) == (K : Int)) = _
      by_cases h : 1 + x % 3 = K
      · rw [h]; simp
      · have h' : ((1 + x % 3 : Nat) : Int) ≠ (K : Int) := by omega
        rw [beq_eq_false_iff_ne.2 h', beq_eq_false_iff_ne.2 h]
    rw [this]
    split <;> rfl
theorem lstr_take {l : List Nat} {i x : Nat} (h : l[i]? = some x) : lstr (l.take (i + 1)) = lstr (l.take i) ++ numberF ((1 + x % 3 : Nat) : Int) x := by
  unfold lstr
  rw [List.take_add_one, h]; simp
theorem lsel_take {K : Nat} {l : List Nat} {i x : Nat} (h : l[i]? = some x) : lsel K (l.take (i + 1)) = if 1 + x % 3 = K then lsel K (l.take i) ++ [x] else lsel K (l.take i) := by
  unfold lsel
  rw [filter_take _ l i x h]
  by_cases e : 1 + x % 3 = K <;> simp [e]
abbrev u64s (l : List Nat) : List Value := l.map fun (x : Nat) => Value.int .u64 (x : Int)
set_option maxRecDepth 100000 in
set_option maxHeartbeats 8000000 in
theorem wireLast_ca {p q : Addr} {w : World} (hg : Glo w p q) (l : List Nat) (hl : ∀ x ∈ l, x < 65536) (num : Nat) (hnum : num < 256) (al : Option Addr) (cl : Nat) (hll : l.length ≤ 9223372036854775807)
    (hal : 0 < l.length → ∃ b o, al = some ⟨b, o, none⟩ ∧ ∃ cur e fr, w.heap[b]? = some (.cells cur e fr) ∧ ∀ (i x : Nat), l[i]? = some x → cur[o + i]? = some (.int .u16 (x : Int))) :
    Ca Tryd.prog 10 #[.slice al l.length cl, .int .u8 (num : Int)] w fun v w' => v = .bool true ∧ Keeps NoB w w' := by
  refine ca_of_body (args := [.slice al l.length cl, .int .u8 (num : Int)]) Tryd.func10 rfl (by kernel_rfl) ?_
  repeat (first
        | (apply wr_move; exact rfl; with_reducible (conv => enter [6, 3]; whnf))
        | (apply wr_assign; exact rfl; with_reducible (conv => enter [6, 3]; whnf))
        | apply wr_end
        | apply wc_seq
        | apply wc_region
        | (apply wr_fieldAddr; exact rfl; exact rfl)
        | (apply wr_load; exact rfl; exact rfl; exact rfl; (first | with_reducible assumption | exact heap_alloc_same _ _ | ((repeat (first | refine (heap_alloc_ne _ _ (by (first | omega | (simp only [World.size_alloc, World.putObj_size, ne_eq]; omega)))).trans ?_ | refine (heap_put_ne _ _ (by (first | omega | (simp only [World.size_alloc, World.putObj_size, ne_eq]; omega)))).trans ?_)); (first | with_reducible assumption | exact heap_alloc_same _ _ | exact World.putObj_heap_same (by (first | omega | (simp only [World.size_alloc, World.putObj_size, ne_eq]; omega)))))); exact rfl; conv => enter [6, 3]; whnf)
        | (apply wr_cmp; exact rfl; exact rfl; exact rfl; (first | exact cmp_lt_t (by omega) | exact cmp_lt_f (by omega) | exact cmp_eq_t (by omega) | exact cmp_eq_f (by omega) | exact cmp_ne_t (by omega) | exact cmp_ne_f (by omega) | exact cmp_le_t (by omega) | exact cmp_le_f (by omega) | exact cmp_gt_t (by omega) | exact cmp_gt_f (by omega) | exact cmp_ge_t (by omega) | exact cmp_ge_f (by omega) | exact cmp_lt _ _ | exact cmp_le _ _ | exact cmp_gt _ _ | exact cmp_ge _ _ | exact cmp_eq _ _ | exact cmp_ne _ _))
        | (apply wr_pick (t := true); exact rfl; exact rfl; with_reducible (conv => enter [6, 3]; whnf))
        | (apply wr_pick (t := false); exact rfl; exact rfl; with_reducible (conv => enter [6, 3]; whnf))
        | (apply wr_add; exact rfl; exact rfl; exact rfl; (first | exact w_i64 (by omega) | exact w_u64 (by omega) | exact w_u8 (by omega) | exact w_u16 (by omega) | exact w_i32 (by omega) | exact w_u32 (by omega) | with_reducible assumption | rfl))
        | (apply wr_sub; exact rfl; exact rfl; exact rfl; (first | exact w_i64 (by omega) | exact w_u64 (by omega) | exact w_u8 (by omega) | exact w_u16 (by omega) | exact w_i32 (by omega) | exact w_u32 (by omega) | with_reducible assumption | rfl))
        | (apply wr_mul; exact rfl; exact rfl; exact rfl; (first | exact w_i64 (by omega) | exact w_u64 (by omega) | exact w_u8 (by omega) | exact w_u16 (by omega) | exact w_i32 (by omega) | exact w_u32 (by omega) | with_reducible assumption | rfl))
        | (apply wr_conv; exact rfl; exact rfl; (first | exact w_i64 (by omega) | exact w_u64 (by omega) | exact w_u8 (by omega) | exact w_u16 (by omega) | exact w_i32 (by omega) | exact w_u32 (by omega) | with_reducible assumption | rfl))
        | (apply wr_not; exact rfl; exact rfl)
        | (apply wr_extract; exact rfl; exact rfl; exact rfl; with_reducible (conv => enter [6, 3]; whnf))
        | (apply wr_len_str; exact rfl; exact rfl)
        | (apply wr_len_slice; exact rfl; exact rfl)
        | (apply wr_store; exact rfl; exact rfl; exact rfl; (first | exact rfl | with_reducible assumption); (first | with_reducible assumption | exact heap_alloc_same _ _ | ((repeat (first | refine (heap_alloc_ne _ _ (by (first | omega | (simp only [World.size_alloc, World.putObj_size, ne_eq]; omega)))).trans ?_ | refine (heap_put_ne _ _ (by (first | omega | (simp only [World.size_alloc, World.putObj_size, ne_eq]; omega)))).trans ?_)); (first | with_reducible assumption | exact heap_alloc_same _ _ | exact World.putObj_heap_same (by (first | omega | (simp only [World.size_alloc, World.putObj_size, ne_eq]; omega)))))); exact rfl)
        | (apply wr_box; exact rfl; exact rfl)
        | (apply wr_alloc; exact rfl)
        | (apply wr_cat; exact rfl; exact rfl; exact rfl; (first | omega | (simp only [List.length_append]; omega)))
        | (apply wr_streqc; exact rfl; exact rfl; exact rfl; (first | exact decide_eq_true (by with_reducible assumption) | exact decide_eq_false (by with_reducible assumption) | exact decide_eq_true rfl | exact rfl))
        | (apply wr_strnec; exact rfl; exact rfl; exact rfl; (first | exact decide_eq_true (by with_reducible assumption) | exact decide_eq_false (by with_reducible assumption) | exact decide_eq_true rfl | exact rfl); with_reducible (conv => enter [6, 3]; whnf))
        | (apply wr_bits; exact rfl; (focus (simp; done)); exact rfl; exact rfl; assumption)
        | (apply wr_eqnil_t; exact rfl; exact rfl)
        | (apply wr_eqnil_f; exact rfl; exact rfl)
        | (apply wr_nenil_f; exact rfl; exact rfl)
        | (apply wr_nenil_t; exact rfl; exact rfl)
        | (apply wc_true; exact rfl)
        | (apply wc_false; exact rfl)
        | apply wc_skip
        | apply wc_block
        | (apply wc_exit; try simp only [thenE, inBlockE, bodyQ, ↓reduceIte, Nat.reduceEqDiff])
        | (apply wc_ret; try simp only [thenE, inBlockE, bodyQ])
        | (apply wr_nil; try simp only [thenE, inBlockE, bodyQ])
        | (apply wr_skip; exact rfl))
  refine wr_call (vs := []) rfl (examples_ca hg) rfl ?_
  rintro v w1 ⟨rfl, hk1⟩
  repeat (first
        | (apply wr_move; exact rfl; with_reducible (conv => enter [6, 3]; whnf))
        | (apply wr_assign; exact rfl; with_reducible (conv => enter [6, 3]; whnf))
        | apply wr_end
        | apply wc_seq
        | apply wc_region
        | (apply wr_fieldAddr; exact rfl; exact rfl)
        | (apply wr_load; exact rfl; exact rfl; exact rfl; (first | with_reducible assumption | exact heap_alloc_same _ _ | ((repeat (first | refine (heap_alloc_ne _ _ (by (first | omega | (simp only [World.size_alloc, World.putObj_size, ne_eq]; omega)))).trans ?_ | refine (heap_put_ne _ _ (by (first | omega | (simp only [World.size_alloc, World.putObj_size, ne_eq]; omega)))).trans ?_)); (first | with_reducible assumption | exact heap_alloc_same _ _ | exact World.putObj_heap_same (by (first | omega | (simp only [World.size_alloc, World.putObj_size, ne_eq]; omega)))))); exact rfl; conv => enter [6, 3]; whnf)
        | (apply wr_cmp; exact rfl; exact rfl; exact rfl; (first | exact cmp_lt_t (by omega) | exact cmp_lt_f (by omega) | exact cmp_eq_t (by omega) | exact cmp_eq_f (by omega) | exact cmp_ne_t (by omega) | exact cmp_ne_f (by omega) | exact cmp_le_t (by omega) | exact cmp_le_f (by omega) | exact cmp_gt_t (by omega) | exact cmp_gt_f (by omega) | exact cmp_ge_t (by omega) | exact cmp_ge_f (by omega) | exact cmp_lt _ _ | exact cmp_le _ _ | exact cmp_gt _ _ | exact cmp_ge _ _ | exact cmp_eq _ _ | exact cmp_ne _ _))
        | (apply wr_pick (t := true); exact rfl; exact rfl; with_reducible (conv => enter [6, 3]; whnf))
        | (apply wr_pick (t := false); exact rfl; exact rfl; with_reducible (conv => enter [6, 3]; whnf))
        | (apply wr_add; exact rfl; exact rfl; exact rfl; (first | exact w_i64 (by omega) | exact w_u64 (by omega) | exact w_u8 (by omega) | exact w_u16 (by omega) | exact w_i32 (by omega) | exact w_u32 (by omega) | with_reducible assumption | rfl))
        | (apply wr_sub; exact rfl; exact rfl; exact rfl; (first | exact w_i64 (by omega) | exact w_u64 (by omega) | exact w_u8 (by omega) | exact w_u16 (by omega) | exact w_i32 (by omega) | exact w_u32 (by omega) | with_reducible assumption | rfl))
        | (apply wr_mul; exact rfl; exact rfl; exact rfl; (first | exact w_i64 (by omega) | exact w_u64 (by omega) | exact w_u8 (by omega) | exact w_u16 (by omega) | exact w_i32 (by omega) | exact w_u32 (by omega) | with_reducible assumption | rfl))
        | (apply wr_conv; exact rfl; exact rfl; (first | exact w_i64 (by omega) | exact w_u64 (by omega) | exact w_u8 (by omega) | exact w_u16 (by omega) | exact w_i32 (by omega) | exact w_u32 (by omega) | with_reducible assumption | rfl))
        | (apply wr_not; exact rfl; exact rfl)
        | (apply wr_extract; exact rfl; exact rfl; exact rfl; with_reducible (conv => enter [6, 3]; whnf))
        | (apply wr_len_str; exact rfl; exact rfl)
        | (apply wr_len_slice; exact rfl; exact rfl)
        | (apply wr_store; exact rfl; exact rfl; exact rfl; (first | exact rfl | with_reducible assumption); (first | with_reducible assumption | exact heap_alloc_same _ _ | ((repeat (first | refine (heap_alloc_ne _ _ (by (first | omega | (simp only [World.size_alloc, World.putObj_size, ne_eq]; omega)))).trans ?_ | refine (heap_put_ne _ _ (by (first | omega | (simp only [World.size_alloc, World.putObj_size, ne_eq]; omega)))).trans ?_)); (first | with_reducible assumption | exact heap_alloc_same _ _ | exact World.putObj_heap_same (by (first | omega | (simp only [World.size_alloc, World.putObj_size, ne_eq]; omega)))))); exact rfl)
        | (apply wr_box; exact rfl; exact rfl)
        | (apply wr_alloc; exact rfl)
        | (apply wr_cat; exact rfl; exact rfl; exact rfl; (first | omega | (simp only [List.length_append]; omega)))
        | (apply wr_streqc; exact rfl; exact rfl; exact rfl; (first | exact decide_eq_true (by with_reducible assumption) | exact decide_eq_false (by with_reducible assumption) | exact decide_eq_true rfl | exact rfl))
        | (apply wr_strnec; exact rfl; exact rfl; exact rfl; (first | exact decide_eq_true (by with_reducible assumption) | exact decide_eq_false (by with_reducible assumption) | exact decide_eq_true rfl | exact rfl); with_reducible (conv => enter [6, 3]; whnf))
        | (apply wr_bits; exact rfl; (focus (simp; done)); exact rfl; exact rfl; assumption)
        | (apply wr_eqnil_t; exact rfl; exact rfl)
        | (apply wr_eqnil_f; exact rfl; exact rfl)
        | (apply wr_nenil_f; exact rfl; exact rfl)
        | (apply wr_nenil_t; exact rfl; exact rfl)
        | (apply wc_true; exact rfl)
        | (apply wc_false; exact rfl)
        | apply wc_skip
        | apply wc_block
        | (apply wc_exit; try simp only [thenE, inBlockE, bodyQ, ↓reduceIte, Nat.reduceEqDiff])
        | (apply wc_ret; try simp only [thenE, inBlockE, bodyQ])
        | (apply wr_nil; try simp only [thenE, inBlockE, bodyQ])
        | (apply wr_skip; exact rfl))
  refine wr_remN (n := num) (m := 4) rfl rfl rfl (by decide) ?_
  repeat (first
        | (apply wr_move; exact rfl; with_reducible (conv => enter [6, 3]; whnf))
        | (apply wr_assign; exact rfl; with_reducible (conv => enter [6, 3]; whnf))
        | apply wr_end
        | apply wc_seq
        | apply wc_region
        | (apply wr_fieldAddr; exact rfl; exact rfl)
        | (apply wr_load; exact rfl; exact rfl; exact rfl; (first | with_reducible assumption | exact heap_alloc_same _ _ | ((repeat (first | refine (heap_alloc_ne _ _ (by (first | omega | (simp only [World.size_alloc, World.putObj_size, ne_eq]; omega)))).trans ?_ | refine (heap_put_ne _ _ (by (first | omega | (simp only [World.size_alloc, World.putObj_size, ne_eq]; omega)))).trans ?_)); (first | with_reducible assumption | exact heap_alloc_same _ _ | exact World.putObj_heap_same (by (first | omega | (simp only [World.size_alloc, World.putObj_size, ne_eq]; omega)))))); exact rfl; conv => enter [6, 3]; whnf)
        | (apply wr_cmp; exact rfl; exact rfl; exact rfl; (first | exact cmp_lt_t (by omega) | exact cmp_lt_f (by omega) | exact cmp_eq_t (by omega) | exact cmp_eq_f (by omega) | exact cmp_ne_t (by omega) | exact cmp_ne_f (by omega) | exact cmp_le_t (by omega) | exact cmp_le_f (by omega) | exact cmp_gt_t (by omega) | exact cmp_gt_f (by omega) | exact cmp_ge_t (by omega) | exact cmp_ge_f (by omega) | exact cmp_lt _ _ | exact cmp_le _ _ | exact cmp_gt _ _ | exact cmp_ge _ _ | exact cmp_eq _ _ | exact cmp_ne _ _))
        | (apply wr_pick (t := true); exact rfl; exact rfl; with_reducible (conv => enter [6, 3]; whnf))
        | (apply wr_pick (t := false); exact rfl; exact rfl; with_reducible (conv => enter [6, 3]; whnf))
        | (apply wr_add; exact rfl; exact rfl; exact rfl; (first | exact w_i64 (by omega) | exact w_u64 (by omega) | exact w_u8 (by omega) | exact w_u16 (by omega) | exact w_i32 (by omega) | exact w_u32 (by omega) | with_reducible assumption | rfl))
        | (apply wr_sub; exact rfl; exact rfl; exact rfl; (first | exact w_i64 (by omega) | exact w_u64 (by omega) | exact w_u8 (by omega) | exact w_u16 (by omega) | exact w_i32 (by omega) | exact w_u32 (by omega) | with_reducible assumption | rfl))
        | (apply wr_mul; exact rfl; exact rfl; exact rfl; (first | exact w_i64 (by omega) | exact w_u64 (by omega) | exact w_u8 (by omega) | exact w_u16 (by omega) | exact w_i32 (by omega) | exact w_u32 (by omega) | with_reducible assumption | rfl))
        | (apply wr_conv; exact rfl; exact rfl; (first | exact w_i64 (by omega) | exact w_u64 (by omega) | exact w_u8 (by omega) | exact w_u16 (by omega) | exact w_i32 (by omega) | exact w_u32 (by omega) | with_reducible assumption | rfl))
        | (apply wr_not; exact rfl; exact rfl)
        | (apply wr_extract; exact rfl; exact rfl; exact rfl; with_reducible (conv => enter [6, 3]; whnf))
        | (apply wr_len_str; exact rfl; exact rfl)
        | (apply wr_len_slice; exact rfl; exact rfl)
        | (apply wr_store; exact rfl; exact rfl; exact rfl; (first | exact rfl | with_reducible assumption); (first | with_reducible assumption | exact heap_alloc_same _ _ | ((repeat (first | refine (heap_alloc_ne _ _ (by (first | omega | (simp only [World.size_alloc, World.putObj_size, ne_eq]; omega)))).trans ?_ | refine (heap_put_ne _ _ (by (first | omega | (simp only [World.size_alloc, World.putObj_size, ne_eq]; omega)))).trans ?_)); (first | with_reducible assumption | exact heap_alloc_same _ _ | exact World.putObj_heap_same (by (first | omega | (simp only [World.size_alloc, World.putObj_size, ne_eq]; omega)))))); exact rfl)
        | (apply wr_box; exact rfl; exact rfl)
        | (apply wr_alloc; exact rfl)
        | (apply wr_cat; exact rfl; exact rfl; exact rfl; (first | omega | (simp only [List.length_append]; omega)))
        | (apply wr_streqc; exact rfl; exact rfl; exact rfl; (first | exact decide_eq_true (by with_reducible assumption) | exact decide_eq_false (by with_reducible assumption) | exact decide_eq_true rfl | exact rfl))
        | (apply wr_strnec; exact rfl; exact rfl; exact rfl; (first | exact decide_eq_true (by with_reducible assumption) | exact decide_eq_false (by with_reducible assumption) | exact decide_eq_true rfl | exact rfl); with_reducible (conv => enter [6, 3]; whnf))
        | (apply wr_bits; exact rfl; (focus (simp; done)); exact rfl; exact rfl; assumption)
        | (apply wr_eqnil_t; exact rfl; exact rfl)
        | (apply wr_eqnil_f; exact rfl; exact rfl)
        | (apply wr_nenil_f; exact rfl; exact rfl)
        | (apply wr_nenil_t; exact rfl; exact rfl)
        | (apply wc_true; exact rfl)
        | (apply wc_false; exact rfl)
        | apply wc_skip
        | apply wc_block
        | (apply wc_exit; try simp only [thenE, inBlockE, bodyQ, ↓reduceIte, Nat.reduceEqDiff])
        | (apply wc_ret; try simp only [thenE, inBlockE, bodyQ])
        | (apply wr_nil; try simp only [thenE, inBlockE, bodyQ])
        | (apply wr_skip; exact rfl))
  obtain ⟨K, hK⟩ : ∃ K, K = 1 + num % 4 := ⟨_, rfl⟩
  have e1 : (1 : Int) + ((num % 4 : Nat) : Int) = (K : Int) := by omega
  rw [e1]
  repeat (first
        | (apply wr_move; exact rfl; with_reducible (conv => enter [6, 3]; whnf))
        | (apply wr_assign; exact rfl; with_reducible (conv => enter [6, 3]; whnf))
        | apply wr_end
        | apply wc_seq
        | apply wc_region
        | (apply wr_fieldAddr; exact rfl; exact rfl)
        | (apply wr_load; exact rfl; exact rfl; exact rfl; (first | with_reducible assumption | exact heap_alloc_same _ _ | ((repeat (first | refine (heap_alloc_ne _ _ (by (first | omega | (simp only [World.size_alloc, World.putObj_size, ne_eq]; omega)))).trans ?_ | refine (heap_put_ne _ _ (by (first | omega | (simp only [World.size_alloc, World.putObj_size, ne_eq]; omega)))).trans ?_)); (first | with_reducible assumption | exact heap_alloc_same _ _ | exact World.putObj_heap_same (by (first | omega | (simp only [World.size_alloc, World.putObj_size, ne_eq]; omega)))))); exact rfl; conv => enter [6, 3]; whnf)
        | (apply wr_cmp; exact rfl; exact rfl; exact rfl; (first | exact cmp_lt_t (by omega) | exact cmp_lt_f (by omega) | exact cmp_eq_t (by omega) | exact cmp_eq_f (by omega) | exact cmp_ne_t (by omega) | exact cmp_ne_f (by omega) | exact cmp_le_t (by omega) | exact cmp_le_f (by omega) | exact cmp_gt_t (by omega) | exact cmp_gt_f (by omega) | exact cmp_ge_t (by omega) | exact cmp_ge_f (by omega) | exact cmp_lt _ _ | exact cmp_le _ _ | exact cmp_gt _ _ | exact cmp_ge _ _ | exact cmp_eq _ _ | exact cmp_ne _ _))
        | (apply wr_pick (t := true); exact rfl; exact rfl; with_reducible (conv => enter [6, 3]; whnf))
        | (apply wr_pick (t := false); exact rfl; exact rfl; with_reducible (conv => enter [6, 3]; whnf))
        | (apply wr_add; exact rfl; exact rfl; exact rfl; (first | exact w_i64 (by omega) | exact w_u64 (by omega) | exact w_u8 (by omega) | exact w_u16 (by omega) | exact w_i32 (by omega) | exact w_u32 (by omega) | with_reducible assumption | rfl))
        | (apply wr_sub; exact rfl; exact rfl; exact rfl; (first | exact w_i64 (by omega) | exact w_u64 (by omega) | exact w_u8 (by omega) | exact w_u16 (by omega) | exact w_i32 (by omega) | exact w_u32 (by omega) | with_reducible assumption | rfl))
        | (apply wr_mul; exact rfl; exact rfl; exact rfl; (first | exact w_i64 (by omega) | exact w_u64 (by omega) | exact w_u8 (by omega) | exact w_u16 (by omega) | exact w_i32 (by omega) | exact w_u32 (by omega) | with_reducible assumption | rfl))
        | (apply wr_conv; exact rfl; exact rfl; (first | exact w_i64 (by omega) | exact w_u64 (by omega) | exact w_u8 (by omega) | exact w_u16 (by omega) | exact w_i32 (by omega) | exact w_u32 (by omega) | with_reducible assumption | rfl))
        | (apply wr_not; exact rfl; exact rfl)
        | (apply wr_extract; exact rfl; exact rfl; exact rfl; with_reducible (conv => enter [6, 3]; whnf))
        | (apply wr_len_str; exact rfl; exact rfl)
        | (apply wr_len_slice; exact rfl; exact rfl)
        | (apply wr_store; exact rfl; exact rfl; exact rfl; (first | exact rfl | with_reducible assumption); (first | with_reducible assumption | exact heap_alloc_same _ _ | ((repeat (first | refine (heap_alloc_ne _ _ (by (first | omega | (simp only [World.size_alloc, World.putObj_size, ne_eq]; omega)))).trans ?_ | refine (heap_put_ne _ _ (by (first | omega | (simp only [World.size_alloc, World.putObj_size, ne_eq]; omega)))).trans ?_)); (first | with_reducible assumption | exact heap_alloc_same _ _ | exact World.putObj_heap_same (by (first | omega | (simp only [World.size_alloc, World.putObj_size, ne_eq]; omega)))))); exact rfl)
        | (apply wr_box; exact rfl; exact rfl)
        | (apply wr_alloc; exact rfl)
        | (apply wr_cat; exact rfl; exact rfl; exact rfl; (first | omega | (simp only [List.length_append]; omega)))
        | (apply wr_streqc; exact rfl; exact rfl; exact rfl; (first | exact decide_eq_true (by with_reducible assumption) | exact decide_eq_false (by with_reducible assumption) | exact decide_eq_true rfl | exact rfl))
        | (apply wr_strnec; exact rfl; exact rfl; exact rfl; (first | exact decide_eq_true (by with_reducible assumption) | exact decide_eq_false (by with_reducible assumption) | exact decide_eq_true rfl | exact rfl); with_reducible (conv => enter [6, 3]; whnf))
        | (apply wr_bits; exact rfl; (focus (simp; done)); exact rfl; exact rfl; assumption)
        | (apply wr_eqnil_t; exact rfl; exact rfl)
        | (apply wr_eqnil_f; exact rfl; exact rfl)
        | (apply wr_nenil_f; exact rfl; exact rfl)
        | (apply wr_nenil_t; exact rfl; exact rfl)
        | (apply wc_true; exact rfl)
        | (apply wc_false; exact rfl)
        | apply wc_skip
        | apply wc_block
        | (apply wc_exit; try simp only [thenE, inBlockE, bodyQ, ↓reduceIte, Nat.reduceEqDiff])
        | (apply wc_ret; try simp only [thenE, inBlockE, bodyQ])
        | (apply wr_nil; try simp only [thenE, inBlockE, bodyQ])
        | (apply wr_skip; exact rfl))
  refine wc_loopL (α := Nat × Value) (fun x => [(0, .slice al l.length cl), (5, .bool true), (6, S (lstr (l.take x.1))), (7, .int .i64 (K : Int)), (8, x.2), (9, .int .i64 (x.1 : Int))])
    (fun x ds w' => ds = [] ∧ x.1 ≤ l.length ∧ x.1 ≤ 8 ∧ w'.ownsRow w1.heap.size 22 1 x.2 (lsel K (l.take x.1)).length (u64s (lsel K (l.take x.1))) ∧ Keeps NoB w1 w') (fun x => 8 - x.1) (0, .slice none 0 0) ⟨rfl, Nat.zero_le _, Nat.zero_le _, ⟨rfl, .inl ⟨rfl, rfl⟩⟩, Keeps.refl _ _⟩ ⟨rfl, rfl, rfl, rfl, rfl, rfl, trivial⟩ ?_
  rintro ⟨i, r⟩ ds f0 w2 ⟨rfl, hi, hi8, ho, hk2⟩
  dsimp only at hi hi8 ho ⊢
  have hsz2 := hk2.size
  have hsz1 := hk1.size
  have hmem : ∀ x ∈ l.take i, x < 65536 := fun x hx => hl x (List.mem_of_mem_take hx)
  have hsl := lstr_len (l.take i) hmem
  have htl : (l.take i).length = i := by rw [List.length_take]; omega
  rw [htl] at hsl
  have hselle : (lsel K (l.take i)).length ≤ i := Nat.le_trans (List.length_filter_le _ _) (Nat.le_of_eq htl)
  by_cases hc : i < l.length ∧ i < 8
  · obtain ⟨hc1, hc2⟩ := hc
    obtain ⟨bl, ol, rfl, curl, el, frl, hbl, hrl⟩ := hal (by omega)
    have hbl2 := (hk1.trans hk2).heap hbl (fun h => h)
    obtain ⟨x, hx⟩ : ∃ x, l[i]? = some x := ⟨l[i], by simp [hc1]⟩
    have hxl : x < 65536 := hl x (List.mem_of_getElem? hx)
    have hcx : curl[ol + i * 1]? = some (.int .u16 (x : Int)) := by rw [Nat.mul_one]; exact hrl i x hx
    have e2 : (1 : Int) + ((x % 3 : Nat) : Int) = ((1 + x % 3 : Nat) : Int) := by omega
    have hnl := numberF_len ((1 + x % 3 : Nat) : Int) (n := x) (by omega)
    repeat (first
          | (apply wr_move; exact rfl; with_reducible (conv => enter [6, 3]; whnf))
          | (apply wr_assign; exact rfl; with_reducible (conv => enter [6, 3]; whnf))
          | apply wr_end
          | apply wc_seq
          | apply wc_region
          | (apply wr_fieldAddr; exact rfl; exact rfl)
          | (apply wr_load; exact rfl; exact rfl; exact rfl; (first | with_reducible assumption | exact heap_alloc_same _ _ | ((repeat (first | refine (heap_alloc_ne _ _ (by (first | omega | (simp only [World.size_alloc, World.putObj_size, ne_eq]; omega)))).trans ?_ | refine (heap_put_ne _ _ (by (first | omega | (simp only [World.size_alloc, World.putObj_size, ne_eq]; omega)))).trans ?_)); (first | with_reducible assumption | exact heap_alloc_same _ _ | exact World.putObj_heap_same (by (first | omega | (simp only [World.size_alloc, World.putObj_size, ne_eq]; omega)))))); exact rfl; conv => enter [6, 3]; whnf)
          | (apply wr_cmp; exact rfl; exact rfl; exact rfl; (first | exact cmp_lt_t (by omega) | exact cmp_lt_f (by omega) | exact cmp_eq_t (by omega) | exact cmp_eq_f (by omega) | exact cmp_ne_t (by omega) | exact cmp_ne_f (by omega) | exact cmp_le_t (by omega) | exact cmp_le_f (by omega) | exact cmp_gt_t (by omega) | exact cmp_gt_f (by omega) | exact cmp_ge_t (by omega) | exact cmp_ge_f (by omega) | exact cmp_lt _ _ | exact cmp_le _ _ | exact cmp_gt _ _ | exact cmp_ge _ _ | exact cmp_eq _ _ | exact cmp_ne _ _))
          | (apply wr_pick (t := true); exact rfl; exact rfl; with_reducible (conv => enter [6, 3]; whnf))
          | (apply wr_pick (t := false); exact rfl; exact rfl; with_reducible (conv => enter [6, 3]; whnf))
          | (apply wr_add; exact rfl; exact rfl; exact rfl; (first | exact w_i64 (by omega) | exact w_u64 (by omega) | exact w_u8 (by omega) | exact w_u16 (by omega) | exact w_i32 (by omega) | exact w_u32 (by omega) | with_reducible assumption | rfl))
          | (apply wr_sub; exact rfl; exact rfl; exact rfl; (first | exact w_i64 (by omega) | exact w_u64 (by omega) | exact w_u8 (by omega) | exact w_u16 (by omega) | exact w_i32 (by omega) | exact w_u32 (by omega) | with_reducible assumption | rfl))
          | (apply wr_mul; exact rfl; exact rfl; exact rfl; (first | exact w_i64 (by omega) | exact w_u64 (by omega) | exact w_u8 (by omega) | exact w_u16 (by omega) | exact w_i32 (by omega) | exact w_u32 (by omega) | with_reducible assumption | rfl))
          | (apply wr_conv; exact rfl; exact rfl; (first | exact w_i64 (by omega) | exact w_u64 (by omega) | exact w_u8 (by omega) | exact w_u16 (by omega) | exact w_i32 (by omega) | exact w_u32 (by omega) | with_reducible assumption | rfl))
          | (apply wr_not; exact rfl; exact rfl)
          | (apply wr_extract; exact rfl; exact rfl; exact rfl; with_reducible (conv => enter [6, 3]; whnf))
          | (apply wr_len_str; exact rfl; exact rfl)
          | (apply wr_len_slice; exact rfl; exact rfl)
          | (apply wr_store; exact rfl; exact rfl; exact rfl; (first | exact rfl | with_reducible assumption); (first | with_reducible assumption | exact heap_alloc_same _ _ | ((repeat (first | refine (heap_alloc_ne _ _ (by (first | omega | (simp only [World.size_alloc, World.putObj_size, ne_eq]; omega)))).trans ?_ | refine (heap_put_ne _ _ (by (first | omega | (simp only [World.size_alloc, World.putObj_size, ne_eq]; omega)))).trans ?_)); (first | with_reducible assumption | exact heap_alloc_same _ _ | exact World.putObj_heap_same (by (first | omega | (simp only [World.size_alloc, World.putObj_size, ne_eq]; omega)))))); exact rfl)
          | (apply wr_box; exact rfl; exact rfl)
          | (apply wr_alloc; exact rfl)
          | (apply wr_cat; exact rfl; exact rfl; exact rfl; (first | omega | (simp only [List.length_append]; omega)))
          | (apply wr_streqc; exact rfl; exact rfl; exact rfl; (first | exact decide_eq_true (by with_reducible assumption) | exact decide_eq_false (by with_reducible assumption) | exact decide_eq_true rfl | exact rfl))
          | (apply wr_strnec; exact rfl; exact rfl; exact rfl; (first | exact decide_eq_true (by with_reducible assumption) | exact decide_eq_false (by with_reducible assumption) | exact decide_eq_true rfl | exact rfl); with_reducible (conv => enter [6, 3]; whnf))
          | (apply wr_bits; exact rfl; (focus (simp; done)); exact rfl; exact rfl; assumption)
          | (apply wr_eqnil_t; exact rfl; exact rfl)
          | (apply wr_eqnil_f; exact rfl; exact rfl)
          | (apply wr_nenil_f; exact rfl; exact rfl)
          | (apply wr_nenil_t; exact rfl; exact rfl)
          | (apply wc_true; exact rfl)
          | (apply wc_false; exact rfl)
          | apply wc_skip
          | apply wc_block
          | (apply wc_exit; try simp only [thenE, inBlockE, bodyQ, ↓reduceIte, Nat.reduceEqDiff])
          | (apply wc_ret; try simp only [thenE, inBlockE, bodyQ])
          | (apply wr_nil; try simp only [thenE, inBlockE, bodyQ])
          | (apply wr_skip; exact rfl))
    refine wc_drawS (l := _) (S := fun w' => Keeps NoB w2 w') (by kernel_rfl) (by kernel_rfl) (Keeps.refl NoB w2).drew ?_
    apply ch_step
    focus
      intro w' hS
      apply wr_move; exact rfl
      apply wr_nil
      exact ⟨rfl, hS⟩
    apply ch_step
    focus
      intro w' hS
      apply wr_move; exact rfl
      apply wr_nil
      exact ⟨rfl, hS⟩
    apply ch_step
    focus
      intro w' hS
      apply wr_move; exact rfl
      apply wr_nil
      exact ⟨rfl, hS⟩
    apply ch_step
    focus
      intro w' hS
      refine wr_indexAddr (i := i) rfl rfl rfl hc1 ?_
      apply wr_nil
      exact ⟨rfl, hS⟩
    apply ch_step
    focus
      intro w' hS
      refine wr_load rfl rfl rfl (hS.heap hbl2 (fun h => h)) hcx ?_
      apply wr_nil
      exact ⟨rfl, hS⟩
    apply ch_step
    focus
      intro w' hS
      refine wr_remN (n := x) (m := 3) rfl rfl rfl (by decide) ?_
      apply wr_nil
      exact ⟨rfl, hS⟩
    apply ch_step
    focus
      intro w' hS
      refine wr_conv rfl rfl (w_i64 (by omega)) ?_
      apply wr_nil
      exact ⟨rfl, hS⟩
    apply ch_step
    focus
      intro w' hS
      refine wr_add (c := ((1 + x % 3 : Nat) : Int)) rfl rfl rfl (by rw [e2]; exact w_i64 (by omega)) ?_
      apply wr_nil
      exact ⟨rfl, hS⟩
    apply ch_step
    focus
      intro w' hS
      apply wr_move; exact rfl
      apply wr_nil
      exact ⟨rfl, hS⟩
    apply ch_step
    focus
      intro w' hS
      apply wr_move; exact rfl
      apply wr_nil
      exact ⟨rfl, hS⟩
    apply ch_step
    focus
      intro w' hS
      refine wr_indexAddr (i := i) rfl rfl rfl hc1 ?_
      apply wr_nil
      exact ⟨rfl, hS⟩
    apply ch_step
    focus
      intro w' hS
      refine wr_load rfl rfl rfl (hS.heap hbl2 (fun h => h)) hcx ?_
      apply wr_nil
      exact ⟨rfl, hS⟩
    apply ch_step
    focus
      intro w' hS
      refine wr_conv rfl rfl (w_u64 (by omega)) ?_
      apply wr_nil
      exact ⟨rfl, hS⟩
    apply ch_step
    focus
      intro w' hS
      refine wr_call (vs := [.int .i64 ((1 + x % 3 : Nat) : Int), .int .u64 (x : Int)]) rfl (number_ca ((1 + x % 3 : Nat) : Int) x (by omega) (by omega) _) rfl ?_
      rintro v w'' ⟨rfl, hk''⟩
      apply wr_nil
      exact ⟨rfl, hS.trans hk''⟩
    apply ch_step
    focus
      intro w' hS
      refine wr_cat rfl rfl rfl (by omega) ?_
      apply wr_nil
      exact ⟨rfl, hS⟩
    apply ch_step
    focus
      intro w' hS
      apply wr_assign; exact rfl
      apply wr_nil
      exact ⟨rfl, hS⟩
    refine ch_nil ?_
    intro w3 hk3
    have hbl3 := hk3.heap hbl2 (fun h => h)
    have ho3 := own_keep ho hk3 (fun b hb h => h)
    have hk13 := hk2.trans hk3
    have hsz3 := hk3.size
    clear hbl2
    repeat (first
          | (apply wr_move; exact rfl; with_reducible (conv => enter [6, 3]; whnf))
          | (apply wr_assign; exact rfl; with_reducible (conv => enter [6, 3]; whnf))
          | apply wr_end
          | apply wc_seq
          | apply wc_region
          | (apply wr_fieldAddr; exact rfl; exact rfl)
          | (apply wr_load; exact rfl; exact rfl; exact rfl; (first | with_reducible assumption | exact heap_alloc_same _ _ | ((repeat (first | refine (heap_alloc_ne _ _ (by (first | omega | (simp only [World.size_alloc, World.putObj_size, ne_eq]; omega)))).trans ?_ | refine (heap_put_ne _ _ (by (first | omega | (simp only [World.size_alloc, World.putObj_size, ne_eq]; omega)))).trans ?_)); (first | with_reducible assumption | exact heap_alloc_same _ _ | exact World.putObj_heap_same (by (first | omega | (simp only [World.size_alloc, World.putObj_size, ne_eq]; omega)))))); exact rfl; conv => enter [6, 3]; whnf)
          | (apply wr_cmp; exact rfl; exact rfl; exact rfl; (first | exact cmp_lt_t (by omega) | exact cmp_lt_f (by omega) | exact cmp_eq_t (by omega) | exact cmp_eq_f (by omega) | exact cmp_ne_t (by omega) | exact cmp_ne_f (by omega) | exact cmp_le_t (by omega) | exact cmp_le_f (by omega) | exact cmp_gt_t (by omega) | exact cmp_gt_f (by omega) | exact cmp_ge_t (by omega) | exact cmp_ge_f (by omega) | exact cmp_lt _ _ | exact cmp_le _ _ | exact cmp_gt _ _ | exact cmp_ge _ _ | exact cmp_eq _ _ | exact cmp_ne _ _))
          | (apply wr_pick (t := true); exact rfl; exact rfl; with_reducible (conv => enter [6, 3]; whnf))
          | (apply wr_pick (t := false); exact rfl; exact rfl; with_reducible (conv => enter [6, 3]; whnf))
          | (apply wr_add; exact rfl; exact rfl; exact rfl; (first | exact w_i64 (by omega) | exact w_u64 (by omega) | exact w_u8 (by omega) | exact w_u16 (by omega) | exact w_i32 (by omega) | exact w_u32 (by omega) | with_reducible assumption | rfl))
          | (apply wr_sub; exact rfl; exact rfl; exact rfl; (first | exact w_i64 (by omega) | exact w_u64 (by omega) | exact w_u8 (by omega) | exact w_u16 (by omega) | exact w_i32 (by omega) | exact w_u32 (by omega) | with_reducible assumption | rfl))
          | (apply wr_mul; exact rfl; exact rfl; exact rfl; (first | exact w_i64 (by omega) | exact w_u64 (by omega) | exact w_u8 (by omega) | exact w_u16 (by omega) | exact w_i32 (by omega) | exact w_u32 (by omega) | with_reducible assumption | rfl))
          | (apply wr_conv; exact rfl; exact rfl; (first | exact w_i64 (by omega) | exact w_u64 (by omega) | exact w_u8 (by omega) | exact w_u16 (by omega) | exact w_i32 (by omega) | exact w_u32 (by omega) | with_reducible assumption | rfl))
          | (apply wr_not; exact rfl; exact rfl)
          | (apply wr_extract; exact rfl; exact rfl; exact rfl; with_reducible (conv => enter [6, 3]; whnf))
          | (apply wr_len_str; exact rfl; exact rfl)
          | (apply wr_len_slice; exact rfl; exact rfl)
          | (apply wr_store; exact rfl; exact rfl; exact rfl; (first | exact rfl | with_reducible assumption); (first | with_reducible assumption | exact heap_alloc_same _ _ | ((repeat (first | refine (heap_alloc_ne _ _ (by (first | omega | (simp only [World.size_alloc, World.putObj_size, ne_eq]; omega)))).trans ?_ | refine (heap_put_ne _ _ (by (first | omega | (simp only [World.size_alloc, World.putObj_size, ne_eq]; omega)))).trans ?_)); (first | with_reducible assumption | exact heap_alloc_same _ _ | exact World.putObj_heap_same (by (first | omega | (simp only [World.size_alloc, World.putObj_size, ne_eq]; omega)))))); exact rfl)
          | (apply wr_box; exact rfl; exact rfl)
          | (apply wr_alloc; exact rfl)
          | (apply wr_cat; exact rfl; exact rfl; exact rfl; (first | omega | (simp only [List.length_append]; omega)))
          | (apply wr_streqc; exact rfl; exact rfl; exact rfl; (first | exact decide_eq_true (by with_reducible assumption) | exact decide_eq_false (by with_reducible assumption) | exact decide_eq_true rfl | exact rfl))
          | (apply wr_strnec; exact rfl; exact rfl; exact rfl; (first | exact decide_eq_true (by with_reducible assumption) | exact decide_eq_false (by with_reducible assumption) | exact decide_eq_true rfl | exact rfl); with_reducible (conv => enter [6, 3]; whnf))
          | (apply wr_bits; exact rfl; (focus (simp; done)); exact rfl; exact rfl; assumption)
          | (apply wr_eqnil_t; exact rfl; exact rfl)
          | (apply wr_eqnil_f; exact rfl; exact rfl)
          | (apply wr_nenil_f; exact rfl; exact rfl)
          | (apply wr_nenil_t; exact rfl; exact rfl)
          | (apply wc_true; exact rfl)
          | (apply wc_false; exact rfl)
          | apply wc_skip
          | apply wc_block
          | (apply wc_exit; try simp only [thenE, inBlockE, bodyQ, ↓reduceIte, Nat.reduceEqDiff])
          | (apply wc_ret; try simp only [thenE, inBlockE, bodyQ])
          | (apply wr_nil; try simp only [thenE, inBlockE, bodyQ])
          | (apply wr_skip; exact rfl))
    refine wr_indexAddr (i := i) rfl rfl rfl hc1 ?_
    refine wr_load rfl rfl rfl hbl3 hcx ?_
    refine wr_remN (n := x) (m := 3) rfl rfl rfl (by decide) ?_
    by_cases hsel : 1 + x % 3 = K
    · have hsel' : ((1 + x % 3 : Nat) : Int) = (K : Int) := by omega
      repeat (first
            | (apply wr_move; exact rfl; with_reducible (conv => enter [6, 3]; whnf))
            | (apply wr_assign; exact rfl; with_reducible (conv => enter [6, 3]; whnf))
            | apply wr_end
            | apply wc_seq
            | apply wc_region
            | (apply wr_fieldAddr; exact rfl; exact rfl)
            | (apply wr_load; exact rfl; exact rfl; exact rfl; (first | with_reducible assumption | exact heap_alloc_same _ _ | ((repeat (first | refine (heap_alloc_ne _ _ (by (first | omega | (simp only [World.size_alloc, World.putObj_size, ne_eq]; omega)))).trans ?_ | refine (heap_put_ne _ _ (by (first | omega | (simp only [World.size_alloc, World.putObj_size, ne_eq]; omega)))).trans ?_)); (first | with_reducible assumption | exact heap_alloc_same _ _ | exact World.putObj_heap_same (by (first | omega | (simp only [World.size_alloc, World.putObj_size, ne_eq]; omega)))))); exact rfl; conv => enter [6, 3]; whnf)
            | (apply wr_cmp; exact rfl; exact rfl; exact rfl; (first | exact cmp_lt_t (by omega) | exact cmp_lt_f (by omega) | exact cmp_eq_t (by omega) | exact cmp_eq_f (by omega) | exact cmp_ne_t (by omega) | exact cmp_ne_f (by omega) | exact cmp_le_t (by omega) | exact cmp_le_f (by omega) | exact cmp_gt_t (by omega) | exact cmp_gt_f (by omega) | exact cmp_ge_t (by omega) | exact cmp_ge_f (by omega) | exact cmp_lt _ _ | exact cmp_le _ _ | exact cmp_gt _ _ | exact cmp_ge _ _ | exact cmp_eq _ _ | exact cmp_ne _ _))
            | (apply wr_pick (t := true); exact rfl; exact rfl; with_reducible (conv => enter [6, 3]; whnf))
            | (apply wr_pick (t := false); exact rfl; exact rfl; with_reducible (conv => enter [6, 3]; whnf))
            | (apply wr_add; exact rfl; exact rfl; exact rfl; (first | exact w_i64 (by omega) | exact w_u64 (by omega) | exact w_u8 (by omega) | exact w_u16 (by omega) | exact w_i32 (by omega) | exact w_u32 (by omega) | with_reducible assumption | rfl))
            | (apply wr_sub; exact rfl; exact rfl; exact rfl; (first | exact w_i64 (by omega) | exact w_u64 (by omega) | exact w_u8 (by omega) | exact w_u16 (by omega) | exact w_i32 (by omega) | exact w_u32 (by omega) | with_reducible assumption | rfl))
            | (apply wr_mul; exact rfl; exact rfl; exact rfl; (first | exact w_i64 (by omega) | exact w_u64 (by omega) | exact w_u8 (by omega) | exact w_u16 (by omega) | exact w_i32 (by omega) | exact w_u32 (by omega) | with_reducible assumption | rfl))
            | (apply wr_conv; exact rfl; exact rfl; (first | exact w_i64 (by omega) | exact w_u64 (by omega) | exact w_u8 (by omega) | exact w_u16 (by omega) | exact w_i32 (by omega) | exact w_u32 (by omega) | with_reducible assumption | rfl))
            | (apply wr_not; exact rfl; exact rfl)
            | (apply wr_extract; exact rfl; exact rfl; exact rfl; with_reducible (conv => enter [6, 3]; whnf))
            | (apply wr_len_str; exact rfl; exact rfl)
            | (apply wr_len_slice; exact rfl; exact rfl)
            | (apply wr_store; exact rfl; exact rfl; exact rfl; (first | exact rfl | with_reducible assumption); (first | with_reducible assumption | exact heap_alloc_same _ _ | ((repeat (first | refine (heap_alloc_ne _ _ (by (first | omega | (simp only [World.size_alloc, World.putObj_size, ne_eq]; omega)))).trans ?_ | refine (heap_put_ne _ _ (by (first | omega | (simp only [World.size_alloc, World.putObj_size, ne_eq]; omega)))).trans ?_)); (first | with_reducible assumption | exact heap_alloc_same _ _ | exact World.putObj_heap_same (by (first | omega | (simp only [World.size_alloc, World.putObj_size, ne_eq]; omega)))))); exact rfl)
            | (apply wr_box; exact rfl; exact rfl)
            | (apply wr_alloc; exact rfl)
            | (apply wr_cat; exact rfl; exact rfl; exact rfl; (first | omega | (simp only [List.length_append]; omega)))
            | (apply wr_streqc; exact rfl; exact rfl; exact rfl; (first | exact decide_eq_true (by with_reducible assumption) | exact decide_eq_false (by with_reducible assumption) | exact decide_eq_true rfl | exact rfl))
            | (apply wr_strnec; exact rfl; exact rfl; exact rfl; (first | exact decide_eq_true (by with_reducible assumption) | exact decide_eq_false (by with_reducible assumption) | exact decide_eq_true rfl | exact rfl); with_reducible (conv => enter [6, 3]; whnf))
            | (apply wr_bits; exact rfl; (focus (simp; done)); exact rfl; exact rfl; assumption)
            | (apply wr_eqnil_t; exact rfl; exact rfl)
            | (apply wr_eqnil_f; exact rfl; exact rfl)
            | (apply wr_nenil_f; exact rfl; exact rfl)
            | (apply wr_nenil_t; exact rfl; exact rfl)
            | (apply wc_true; exact rfl)
            | (apply wc_false; exact rfl)
            | apply wc_skip
            | apply wc_block
            | (apply wc_exit; try simp only [thenE, inBlockE, bodyQ, ↓reduceIte, Nat.reduceEqDiff])
            | (apply wc_ret; try simp only [thenE, inBlockE, bodyQ])
            | (apply wr_nil; try simp only [thenE, inBlockE, bodyQ])
            | (apply wr_skip; exact rfl))
      refine wr_indexAddr (i := i) rfl rfl rfl hc1 ?_
      refine wr_load rfl rfl rfl hbl3 hcx ?_
      repeat (first
            | (apply wr_move; exact rfl; with_reducible (conv => enter [6, 3]; whnf))
            | (apply wr_assign; exact rfl; with_reducible (conv => enter [6, 3]; whnf))
            | apply wr_end
            | apply wc_seq
            | apply wc_region
            | (apply wr_fieldAddr; exact rfl; exact rfl)
            | (apply wr_load; exact rfl; exact rfl; exact rfl; (first | with_reducible assumption | exact heap_alloc_same _ _ | ((repeat (first | refine (heap_alloc_ne _ _ (by (first | omega | (simp only [World.size_alloc, World.putObj_size, ne_eq]; omega)))).trans ?_ | refine (heap_put_ne _ _ (by (first | omega | (simp only [World.size_alloc, World.putObj_size, ne_eq]; omega)))).trans ?_)); (first | with_reducible assumption | exact heap_alloc_same _ _ | exact World.putObj_heap_same (by (first | omega | (simp only [World.size_alloc, World.putObj_size, ne_eq]; omega)))))); exact rfl; conv => enter [6, 3]; whnf)
            | (apply wr_cmp; exact rfl; exact rfl; exact rfl; (first | exact cmp_lt_t (by omega) | exact cmp_lt_f (by omega) | exact cmp_eq_t (by omega) | exact cmp_eq_f (by omega) | exact cmp_ne_t (by omega) | exact cmp_ne_f (by omega) | exact cmp_le_t (by omega) | exact cmp_le_f (by omega) | exact cmp_gt_t (by omega) | exact cmp_gt_f (by omega) | exact cmp_ge_t (by omega) | exact cmp_ge_f (by omega) | exact cmp_lt _ _ | exact cmp_le _ _ | exact cmp_gt _ _ | exact cmp_ge _ _ | exact cmp_eq _ _ | exact cmp_ne _ _))
            | (apply wr_pick (t := true); exact rfl; exact rfl; with_reducible (conv => enter [6, 3]; whnf))
            | (apply wr_pick (t := false); exact rfl; exact rfl; with_reducible (conv => enter [6, 3]; whnf))
            | (apply wr_add; exact rfl; exact rfl; exact rfl; (first | exact w_i64 (by omega) | exact w_u64 (by omega) | exact w_u8 (by omega) | exact w_u16 (by omega) | exact w_i32 (by omega) | exact w_u32 (by omega) | with_reducible assumption | rfl))
            | (apply wr_sub; exact rfl; exact rfl; exact rfl; (first | exact w_i64 (by omega) | exact w_u64 (by omega) | exact w_u8 (by omega) | exact w_u16 (by omega) | exact w_i32 (by omega) | exact w_u32 (by omega) | with_reducible assumption | rfl))
            | (apply wr_mul; exact rfl; exact rfl; exact rfl; (first | exact w_i64 (by omega) | exact w_u64 (by omega) | exact w_u8 (by omega) | exact w_u16 (by omega) | exact w_i32 (by omega) | exact w_u32 (by omega) | with_reducible assumption | rfl))
            | (apply wr_conv; exact rfl; exact rfl; (first | exact w_i64 (by omega) | exact w_u64 (by omega) | exact w_u8 (by omega) | exact w_u16 (by omega) | exact w_i32 (by omega) | exact w_u32 (by omega) | with_reducible assumption | rfl))
            | (apply wr_not; exact rfl; exact rfl)
            | (apply wr_extract; exact rfl; exact rfl; exact rfl; with_reducible (conv => enter [6, 3]; whnf))
            | (apply wr_len_str; exact rfl; exact rfl)
            | (apply wr_len_slice; exact rfl; exact rfl)
            | (apply wr_store; exact rfl; exact rfl; exact rfl; (first | exact rfl | with_reducible assumption); (first | with_reducible assumption | exact heap_alloc_same _ _ | ((repeat (first | refine (heap_alloc_ne _ _ (by (first | omega | (simp only [World.size_alloc, World.putObj_size, ne_eq]; omega)))).trans ?_ | refine (heap_put_ne _ _ (by (first | omega | (simp only [World.size_alloc, World.putObj_size, ne_eq]; omega)))).trans ?_)); (first | with_reducible assumption | exact heap_alloc_same _ _ | exact World.putObj_heap_same (by (first | omega | (simp only [World.size_alloc, World.putObj_size, ne_eq]; omega)))))); exact rfl)
            | (apply wr_box; exact rfl; exact rfl)
            | (apply wr_alloc; exact rfl)
            | (apply wr_cat; exact rfl; exact rfl; exact rfl; (first | omega | (simp only [List.length_append]; omega)))
            | (apply wr_streqc; exact rfl; exact rfl; exact rfl; (first | exact decide_eq_true (by with_reducible assumption) | exact decide_eq_false (by with_reducible assumption) | exact decide_eq_true rfl | exact rfl))
            | (apply wr_strnec; exact rfl; exact rfl; exact rfl; (first | exact decide_eq_true (by with_reducible assumption) | exact decide_eq_false (by with_reducible assumption) | exact decide_eq_true rfl | exact rfl); with_reducible (conv => enter [6, 3]; whnf))
            | (apply wr_bits; exact rfl; (focus (simp; done)); exact rfl; exact rfl; assumption)
            | (apply wr_eqnil_t; exact rfl; exact rfl)
            | (apply wr_eqnil_f; exact rfl; exact rfl)
            | (apply wr_nenil_f; exact rfl; exact rfl)
            | (apply wr_nenil_t; exact rfl; exact rfl)
            | (apply wc_true; exact rfl)
            | (apply wc_false; exact rfl)
            | apply wc_skip
            | apply wc_block
            | (apply wc_exit; try simp only [thenE, inBlockE, bodyQ, ↓reduceIte, Nat.reduceEqDiff])
            | (apply wc_ret; try simp only [thenE, inBlockE, bodyQ])
            | (apply wr_nil; try simp only [thenE, inBlockE, bodyQ])
            | (apply wr_skip; exact rfl))
      refine wr_buildSlice (vs := [.int .u64 (x : Int)]) rfl rfl (by intro v hv; simp at hv; subst hv; rfl) rfl (by decide) (by decide) (by decide) ?_
      refine wr_append (v := r) (n := (lsel K (l.take i)).length) (m := 1) (news := [.int .u64 (x : Int)]) rfl rfl (ho3.alloc _) rfl (heap_alloc_same _ _) rfl (by intro u hu; simp at hu; subst hu; rfl) rfl (by decide) (by omega) (by omega) (by simp; omega) ?_
      intro r' w4 ho4 hk4 _
      repeat (first
            | (apply wr_move; exact rfl; with_reducible (conv => enter [6, 3]; whnf))
            | (apply wr_assign; exact rfl; with_reducible (conv => enter [6, 3]; whnf))
            | apply wr_end
            | apply wc_seq
            | apply wc_region
            | (apply wr_fieldAddr; exact rfl; exact rfl)
            | (apply wr_load; exact rfl; exact rfl; exact rfl; (first | with_reducible assumption | exact heap_alloc_same _ _ | ((repeat (first | refine (heap_alloc_ne _ _ (by (first | omega | (simp only [World.size_alloc, World.putObj_size, ne_eq]; omega)))).trans ?_ | refine (heap_put_ne _ _ (by (first | omega | (simp only [World.size_alloc, World.putObj_size, ne_eq]; omega)))).trans ?_)); (first | with_reducible assumption | exact heap_alloc_same _ _ | exact World.putObj_heap_same (by (first | omega | (simp only [World.size_alloc, World.putObj_size, ne_eq]; omega)))))); exact rfl; conv => enter [6, 3]; whnf)
            | (apply wr_cmp; exact rfl; exact rfl; exact rfl; (first | exact cmp_lt_t (by omega) | exact cmp_lt_f (by omega) | exact cmp_eq_t (by omega) | exact cmp_eq_f (by omega) | exact cmp_ne_t (by omega) | exact cmp_ne_f (by omega) | exact cmp_le_t (by omega) | exact cmp_le_f (by omega) | exact cmp_gt_t (by omega) | exact cmp_gt_f (by omega) | exact cmp_ge_t (by omega) | exact cmp_ge_f (by omega) | exact cmp_lt _ _ | exact cmp_le _ _ | exact cmp_gt _ _ | exact cmp_ge _ _ | exact cmp_eq _ _ | exact cmp_ne _ _))
            | (apply wr_pick (t := true); exact rfl; exact rfl; with_reducible (conv => enter [6, 3]; whnf))
            | (apply wr_pick (t := false); exact rfl; exact rfl; with_reducible (conv => enter [6, 3]; whnf))
            | (apply wr_add; exact rfl; exact rfl; exact rfl; (first | exact w_i64 (by omega) | exact w_u64 (by omega) | exact w_u8 (by omega) | exact w_u16 (by omega) | exact w_i32 (by omega) | exact w_u32 (by omega) | with_reducible assumption | rfl))
            | (apply wr_sub; exact rfl; exact rfl; exact rfl; (first | exact w_i64 (by omega) | exact w_u64 (by omega) | exact w_u8 (by omega) | exact w_u16 (by omega) | exact w_i32 (by omega) | exact w_u32 (by omega) | with_reducible assumption | rfl))
            | (apply wr_mul; exact rfl; exact rfl; exact rfl; (first | exact w_i64 (by omega) | exact w_u64 (by omega) | exact w_u8 (by omega) | exact w_u16 (by omega) | exact w_i32 (by omega) | exact w_u32 (by omega) | with_reducible assumption | rfl))
            | (apply wr_conv; exact rfl; exact rfl; (first | exact w_i64 (by omega) | exact w_u64 (by omega) | exact w_u8 (by omega) | exact w_u16 (by omega) | exact w_i32 (by omega) | exact w_u32 (by omega) | with_reducible assumption | rfl))
            | (apply wr_not; exact rfl; exact rfl)
            | (apply wr_extract; exact rfl; exact rfl; exact rfl; with_reducible (conv => enter [6, 3]; whnf))
            | (apply wr_len_str; exact rfl; exact rfl)
            | (apply wr_len_slice; exact rfl; exact rfl)
            | (apply wr_store; exact rfl; exact rfl; exact rfl; (first | exact rfl | with_reducible assumption); (first | with_reducible assumption | exact heap_alloc_same _ _ | ((repeat (first | refine (heap_alloc_ne _ _ (by (first | omega | (simp only [World.size_alloc, World.putObj_size, ne_eq]; omega)))).trans ?_ | refine (heap_put_ne _ _ (by (first | omega | (simp only [World.size_alloc, World.putObj_size, ne_eq]; omega)))).trans ?_)); (first | with_reducible assumption | exact heap_alloc_same _ _ | exact World.putObj_heap_same (by (first | omega | (simp only [World.size_alloc, World.putObj_size, ne_eq]; omega)))))); exact rfl)
            | (apply wr_box; exact rfl; exact rfl)
            | (apply wr_alloc; exact rfl)
            | (apply wr_cat; exact rfl; exact rfl; exact rfl; (first | omega | (simp only [List.length_append]; omega)))
            | (apply wr_streqc; exact rfl; exact rfl; exact rfl; (first | exact decide_eq_true (by with_reducible assumption) | exact decide_eq_false (by with_reducible assumption) | exact decide_eq_true rfl | exact rfl))
            | (apply wr_strnec; exact rfl; exact rfl; exact rfl; (first | exact decide_eq_true (by with_reducible assumption) | exact decide_eq_false (by with_reducible assumption) | exact decide_eq_true rfl | exact rfl); with_reducible (conv => enter [6, 3]; whnf))
            | (apply wr_bits; exact rfl; (focus (simp; done)); exact rfl; exact rfl; assumption)
            | (apply wr_eqnil_t; exact rfl; exact rfl)
            | (apply wr_eqnil_f; exact rfl; exact rfl)
            | (apply wr_nenil_f; exact rfl; exact rfl)
            | (apply wr_nenil_t; exact rfl; exact rfl)
            | (apply wc_true; exact rfl)
            | (apply wc_false; exact rfl)
            | apply wc_skip
            | apply wc_block
            | (apply wc_exit; try simp only [thenE, inBlockE, bodyQ, ↓reduceIte, Nat.reduceEqDiff])
            | (apply wc_ret; try simp only [thenE, inBlockE, bodyQ])
            | (apply wr_nil; try simp only [thenE, inBlockE, bodyQ])
            | (apply wr_skip; exact rfl))
      refine ⟨(i + 1, r'), by dsimp only; omega, ⟨by trivial, hc1, hc2, ?_, ?_⟩, rfl, rfl, ?_, rfl, rfl, by simp, trivial⟩
      · show w4.ownsRow _ _ _ _ (lsel K (l.take (i + 1))).length (u64s (lsel K (l.take (i + 1))))
        rw [lsel_take hx, if_pos hsel, List.length_append, u64s, List.map_append]
        exact ho4
      · exact (hk13.alloc _).trans' hk4 fun j hj h => absurd (ho3.lt j h).1 (by omega)
      · show S _ = S _
        rw [lstr_take hx]
    · have hsel' : ((1 + x % 3 : Nat) : Int) ≠ (K : Int) := by omega
      repeat (first
            | (apply wr_move; exact rfl; with_reducible (conv => enter [6, 3]; whnf))
            | (apply wr_assign; exact rfl; with_reducible (conv => enter [6, 3]; whnf))
            | apply wr_end
            | apply wc_seq
            | apply wc_region
            | (apply wr_fieldAddr; exact rfl; exact rfl)
            | (apply wr_load; exact rfl; exact rfl; exact rfl; (first | with_reducible assumption | exact heap_alloc_same _ _ | ((repeat (first | refine (heap_alloc_ne _ _ (by (first | omega | (simp only [World.size_alloc, World.putObj_size, ne_eq]; omega)))).trans ?_ | refine (heap_put_ne _ _ (by (first | omega | (simp only [World.size_alloc, World.putObj_size, ne_eq]; omega)))).trans ?_)); (first | with_reducible assumption | exact heap_alloc_same _ _ | exact World.putObj_heap_same (by (first | omega | (simp only [World.size_alloc, World.putObj_size, ne_eq]; omega)))))); exact rfl; conv => enter [6, 3]; whnf)
            | (apply wr_cmp; exact rfl; exact rfl; exact rfl; (first | exact cmp_lt_t (by omega) | exact cmp_lt_f (by omega) | exact cmp_eq_t (by omega) | exact cmp_eq_f (by omega) | exact cmp_ne_t (by omega) | exact cmp_ne_f (by omega) | exact cmp_le_t (by omega) | exact cmp_le_f (by omega) | exact cmp_gt_t (by omega) | exact cmp_gt_f (by omega) | exact cmp_ge_t (by omega) | exact cmp_ge_f (by omega) | exact cmp_lt _ _ | exact cmp_le _ _ | exact cmp_gt _ _ | exact cmp_ge _ _ | exact cmp_eq _ _ | exact cmp_ne _ _))
            | (apply wr_pick (t := true); exact rfl; exact rfl; with_reducible (conv => enter [6, 3]; whnf))
            | (apply wr_pick (t := false); exact rfl; exact rfl; with_reducible (conv => enter [6, 3]; whnf))
            | (apply wr_add; exact rfl; exact rfl; exact rfl; (first | exact w_i64 (by omega) | exact w_u64 (by omega) | exact w_u8 (by omega) | exact w_u16 (by omega) | exact w_i32 (by omega) | exact w_u32 (by omega) | with_reducible assumption | rfl))
            | (apply wr_sub; exact rfl; exact rfl; exact rfl; (first | exact w_i64 (by omega) | exact w_u64 (by omega) | exact w_u8 (by omega) | exact w_u16 (by omega) | exact w_i32 (by omega) | exact w_u32 (by omega) | with_reducible assumption | rfl))
            | (apply wr_mul; exact rfl; exact rfl; exact rfl; (first | exact w_i64 (by omega) | exact w_u64 (by omega) | exact w_u8 (by omega) | exact w_u16 (by omega) | exact w_i32 (by omega) | exact w_u32 (by omega) | with_reducible assumption | rfl))
            | (apply wr_conv; exact rfl; exact rfl; (first | exact w_i64 (by omega) | exact w_u64 (by omega) | exact w_u8 (by omega) | exact w_u16 (by omega) | exact w_i32 (by omega) | exact w_u32 (by omega) | with_reducible assumption | rfl))
            | (apply wr_not; exact rfl; exact rfl)
            | (apply wr_extract; exact rfl; exact rfl; exact rfl; with_reducible (conv => enter [6, 3]; whnf))
            | (apply wr_len_str; exact rfl; exact rfl)
            | (apply wr_len_slice; exact rfl; exact rfl)
            | (apply wr_store; exact rfl; exact rfl; exact rfl; (first | exact rfl | with_reducible assumption); (first | with_reducible assumption | exact heap_alloc_same _ _ | ((repeat (first | refine (heap_alloc_ne _ _ (by (first | omega | (simp only [World.size_alloc, World.putObj_size, ne_eq]; omega)))).trans ?_ | refine (heap_put_ne _ _ (by (first | omega | (simp only [World.size_alloc, World.putObj_size, ne_eq]; omega)))).trans ?_)); (first | with_reducible assumption | exact heap_alloc_same _ _ | exact World.putObj_heap_same (by (first | omega | (simp only [World.size_alloc, World.putObj_size, ne_eq]; omega)))))); exact rfl)
            | (apply wr_box; exact rfl; exact rfl)
            | (apply wr_alloc; exact rfl)
            | (apply wr_cat; exact rfl; exact rfl; exact rfl; (first | omega | (simp only [List.length_append]; omega)))
            | (apply wr_streqc; exact rfl; exact rfl; exact rfl; (first | exact decide_eq_true (by with_reducible assumption) | exact decide_eq_false (by with_reducible assumption) | exact decide_eq_true rfl | exact rfl))
            | (apply wr_strnec; exact rfl; exact rfl; exact rfl; (first | exact decide_eq_true (by with_reducible assumption) | exact decide_eq_false (by with_reducible assumption) | exact decide_eq_true rfl | exact rfl); with_reducible (conv => enter [6, 3]; whnf))
            | (apply wr_bits; exact rfl; (focus (simp; done)); exact rfl; exact rfl; assumption)
            | (apply wr_eqnil_t; exact rfl; exact rfl)
            | (apply wr_eqnil_f; exact rfl; exact rfl)
            | (apply wr_nenil_f; exact rfl; exact rfl)
            | (apply wr_nenil_t; exact rfl; exact rfl)
            | (apply wc_true; exact rfl)
            | (apply wc_false; exact rfl)
            | apply wc_skip
            | apply wc_block
            | (apply wc_exit; try simp only [thenE, inBlockE, bodyQ, ↓reduceIte, Nat.reduceEqDiff])
            | (apply wc_ret; try simp only [thenE, inBlockE, bodyQ])
            | (apply wr_nil; try simp only [thenE, inBlockE, bodyQ])
            | (apply wr_skip; exact rfl))
      refine ⟨(i + 1, r), by dsimp only; omega, ⟨by trivial, hc1, hc2, ?_, hk13⟩, rfl, rfl, ?_, rfl, rfl, by simp, trivial⟩
      · show w3.ownsRow _ _ _ _ (lsel K (l.take (i + 1))).length (u64s (lsel K (l.take (i + 1))))
        rw [lsel_take hx, if_neg hsel]
        exact ho3
      · show S _ = S _
        rw [lstr_take hx]
  · have hcc : ¬ i < l.length ∨ i < l.length ∧ ¬ i < 8 := by omega
    clear hc
    have hg2 := hg.keep (hk1.trans hk2) (fun i hi h => h)
    have hp := lstr_parse (l.take i) hmem
    obtain ⟨L, hL⟩ : ∃ L, L = l.take i := ⟨_, rfl⟩
    rw [← hL] at ho hsl hp htl hselle ⊢
    rcases hcc with hcc | hcc
    all_goals
      repeat (first
            | (apply wr_move; exact rfl; with_reducible (conv => enter [6, 3]; whnf))
            | (apply wr_assign; exact rfl; with_reducible (conv => enter [6, 3]; whnf))
            | apply wr_end
            | apply wc_seq
            | apply wc_region
            | (apply wr_fieldAddr; exact rfl; exact rfl)
            | (apply wr_load; exact rfl; exact rfl; exact rfl; (first | with_reducible assumption | exact heap_alloc_same _ _ | ((repeat (first | refine (heap_alloc_ne _ _ (by (first | omega | (simp only [World.size_alloc, World.putObj_size, ne_eq]; omega)))).trans ?_ | refine (heap_put_ne _ _ (by (first | omega | (simp only [World.size_alloc, World.putObj_size, ne_eq]; omega)))).trans ?_)); (first | with_reducible assumption | exact heap_alloc_same _ _ | exact World.putObj_heap_same (by (first | omega | (simp only [World.size_alloc, World.putObj_size, ne_eq]; omega)))))); exact rfl; conv => enter [6, 3]; whnf)
            | (apply wr_cmp; exact rfl; exact rfl; exact rfl; (first | exact cmp_lt_t (by omega) | exact cmp_lt_f (by omega) | exact cmp_eq_t (by omega) | exact cmp_eq_f (by omega) | exact cmp_ne_t (by omega) | exact cmp_ne_f (by omega) | exact cmp_le_t (by omega) | exact cmp_le_f (by omega) | exact cmp_gt_t (by omega) | exact cmp_gt_f (by omega) | exact cmp_ge_t (by omega) | exact cmp_ge_f (by omega) | exact cmp_lt _ _ | exact cmp_le _ _ | exact cmp_gt _ _ | exact cmp_ge _ _ | exact cmp_eq _ _ | exact cmp_ne _ _))
            | (apply wr_pick (t := true); exact rfl; exact rfl; with_reducible (conv => enter [6, 3]; whnf))
            | (apply wr_pick (t := false); exact rfl; exact rfl; with_reducible (conv => enter [6, 3]; whnf))
            | (apply wr_add; exact rfl; exact rfl; exact rfl; (first | exact w_i64 (by omega) | exact w_u64 (by omega) | exact w_u8 (by omega) | exact w_u16 (by omega) | exact w_i32 (by omega) | exact w_u32 (by omega) | with_reducible assumption | rfl))
            | (apply wr_sub; exact rfl; exact rfl; exact rfl; (first | exact w_i64 (by omega) | exact w_u64 (by omega) | exact w_u8 (by omega) | exact w_u16 (by omega) | exact w_i32 (by omega) | exact w_u32 (by omega) | with_reducible assumption | rfl))
            | (apply wr_mul; exact rfl; exact rfl; exact rfl; (first | exact w_i64 (by omega) | exact w_u64 (by omega) | exact w_u8 (by omega) | exact w_u16 (by omega) | exact w_i32 (by omega) | exact w_u32 (by omega) | with_reducible assumption | rfl))
            | (apply wr_conv; exact rfl; exact rfl; (first | exact w_i64 (by omega) | exact w_u64 (by omega) | exact w_u8 (by omega) | exact w_u16 (by omega) | exact w_i32 (by omega) | exact w_u32 (by omega) | with_reducible assumption | rfl))
            | (apply wr_not; exact rfl; exact rfl)
            | (apply wr_extract; exact rfl; exact rfl; exact rfl; with_reducible (conv => enter [6, 3]; whnf))
            | (apply wr_len_str; exact rfl; exact rfl)
            | (apply wr_len_slice; exact rfl; exact rfl)
            | (apply wr_store; exact rfl; exact rfl; exact rfl; (first | exact rfl | with_reducible assumption); (first | with_reducible assumption | exact heap_alloc_same _ _ | ((repeat (first | refine (heap_alloc_ne _ _ (by (first | omega | (simp only [World.size_alloc, World.putObj_size, ne_eq]; omega)))).trans ?_ | refine (heap_put_ne _ _ (by (first | omega | (simp only [World.size_alloc, World.putObj_size, ne_eq]; omega)))).trans ?_)); (first | with_reducible assumption | exact heap_alloc_same _ _ | exact World.putObj_heap_same (by (first | omega | (simp only [World.size_alloc, World.putObj_size, ne_eq]; omega)))))); exact rfl)
            | (apply wr_box; exact rfl; exact rfl)
            | (apply wr_alloc; exact rfl)
            | (apply wr_cat; exact rfl; exact rfl; exact rfl; (first | omega | (simp only [List.length_append]; omega)))
            | (apply wr_streqc; exact rfl; exact rfl; exact rfl; (first | exact decide_eq_true (by with_reducible assumption) | exact decide_eq_false (by with_reducible assumption) | exact decide_eq_true rfl | exact rfl))
            | (apply wr_strnec; exact rfl; exact rfl; exact rfl; (first | exact decide_eq_true (by with_reducible assumption) | exact decide_eq_false (by with_reducible assumption) | exact decide_eq_true rfl | exact rfl); with_reducible (conv => enter [6, 3]; whnf))
            | (apply wr_bits; exact rfl; (focus (simp; done)); exact rfl; exact rfl; assumption)
            | (apply wr_eqnil_t; exact rfl; exact rfl)
            | (apply wr_eqnil_f; exact rfl; exact rfl)
            | (apply wr_nenil_f; exact rfl; exact rfl)
            | (apply wr_nenil_t; exact rfl; exact rfl)
            | (apply wc_true; exact rfl)
            | (apply wc_false; exact rfl)
            | apply wc_skip
            | apply wc_block
            | (apply wc_exit; try simp only [thenE, inBlockE, bodyQ, ↓reduceIte, Nat.reduceEqDiff])
            | (apply wc_ret; try simp only [thenE, inBlockE, bodyQ])
            | (apply wr_nil; try simp only [thenE, inBlockE, bodyQ])
            | (apply wr_skip; exact rfl))
      refine wr_call (vs := [S (lstr L)]) rfl (parse_ca (lstr L) (by omega) hg2) rfl ?_
      rintro v w3 ⟨hv, hk3⟩
      obtain ⟨sl, rfl, hsl3⟩ := parseR_get hv
      clear hv
      rw [hp] at hsl3 ⊢
      simp only [Option.getD_some, Option.isSome_some] at hsl3 ⊢
      repeat (first
            | (apply wr_move; exact rfl; with_reducible (conv => enter [6, 3]; whnf))
            | (apply wr_assign; exact rfl; with_reducible (conv => enter [6, 3]; whnf))
            | apply wr_end
            | apply wc_seq
            | apply wc_region
            | (apply wr_fieldAddr; exact rfl; exact rfl)
            | (apply wr_load; exact rfl; exact rfl; exact rfl; (first | with_reducible assumption | exact heap_alloc_same _ _ | ((repeat (first | refine (heap_alloc_ne _ _ (by (first | omega | (simp only [World.size_alloc, World.putObj_size, ne_eq]; omega)))).trans ?_ | refine (heap_put_ne _ _ (by (first | omega | (simp only [World.size_alloc, World.putObj_size, ne_eq]; omega)))).trans ?_)); (first | with_reducible assumption | exact heap_alloc_same _ _ | exact World.putObj_heap_same (by (first | omega | (simp only [World.size_alloc, World.putObj_size, ne_eq]; omega)))))); exact rfl; conv => enter [6, 3]; whnf)
            | (apply wr_cmp; exact rfl; exact rfl; exact rfl; (first | exact cmp_lt_t (by omega) | exact cmp_lt_f (by omega) | exact cmp_eq_t (by omega) | exact cmp_eq_f (by omega) | exact cmp_ne_t (by omega) | exact cmp_ne_f (by omega) | exact cmp_le_t (by omega) | exact cmp_le_f (by omega) | exact cmp_gt_t (by omega) | exact cmp_gt_f (by omega) | exact cmp_ge_t (by omega) | exact cmp_ge_f (by omega) | exact cmp_lt _ _ | exact cmp_le _ _ | exact cmp_gt _ _ | exact cmp_ge _ _ | exact cmp_eq _ _ | exact cmp_ne _ _))
            | (apply wr_pick (t := true); exact rfl; exact rfl; with_reducible (conv => enter [6, 3]; whnf))
            | (apply wr_pick (t := false); exact rfl; exact rfl; with_reducible (conv => enter [6, 3]; whnf))
            | (apply wr_add; exact rfl; exact rfl; exact rfl; (first | exact w_i64 (by omega) | exact w_u64 (by omega) | exact w_u8 (by omega) | exact w_u16 (by omega) | exact w_i32 (by omega) | exact w_u32 (by omega) | with_reducible assumption | rfl))
            | (apply wr_sub; exact rfl; exact rfl; exact rfl; (first | exact w_i64 (by omega) | exact w_u64 (by omega) | exact w_u8 (by omega) | exact w_u16 (by omega) | exact w_i32 (by omega) | exact w_u32 (by omega) | with_reducible assumption | rfl))
            | (apply wr_mul; exact rfl; exact rfl; exact rfl; (first | exact w_i64 (by omega) | exact w_u64 (by omega) | exact w_u8 (by omega) | exact w_u16 (by omega) | exact w_i32 (by omega) | exact w_u32 (by omega) | with_reducible assumption | rfl))
            | (apply wr_conv; exact rfl; exact rfl; (first | exact w_i64 (by omega) | exact w_u64 (by omega) | exact w_u8 (by omega) | exact w_u16 (by omega) | exact w_i32 (by omega) | exact w_u32 (by omega) | with_reducible assumption | rfl))
            | (apply wr_not; exact rfl; exact rfl)
            | (apply wr_extract; exact rfl; exact rfl; exact rfl; with_reducible (conv => enter [6, 3]; whnf))
            | (apply wr_len_str; exact rfl; exact rfl)
            | (apply wr_len_slice; exact rfl; exact rfl)
            | (apply wr_store; exact rfl; exact rfl; exact rfl; (first | exact rfl | with_reducible assumption); (first | with_reducible assumption | exact heap_alloc_same _ _ | ((repeat (first | refine (heap_alloc_ne _ _ (by (first | omega | (simp only [World.size_alloc, World.putObj_size, ne_eq]; omega)))).trans ?_ | refine (heap_put_ne _ _ (by (first | omega | (simp only [World.size_alloc, World.putObj_size, ne_eq]; omega)))).trans ?_)); (first | with_reducible assumption | exact heap_alloc_same _ _ | exact World.putObj_heap_same (by (first | omega | (simp only [World.size_alloc, World.putObj_size, ne_eq]; omega)))))); exact rfl)
            | (apply wr_box; exact rfl; exact rfl)
            | (apply wr_alloc; exact rfl)
            | (apply wr_cat; exact rfl; exact rfl; exact rfl; (first | omega | (simp only [List.length_append]; omega)))
            | (apply wr_streqc; exact rfl; exact rfl; exact rfl; (first | exact decide_eq_true (by with_reducible assumption) | exact decide_eq_false (by with_reducible assumption) | exact decide_eq_true rfl | exact rfl))
            | (apply wr_strnec; exact rfl; exact rfl; exact rfl; (first | exact decide_eq_true (by with_reducible assumption) | exact decide_eq_false (by with_reducible assumption) | exact decide_eq_true rfl | exact rfl); with_reducible (conv => enter [6, 3]; whnf))
            | (apply wr_bits; exact rfl; (focus (simp; done)); exact rfl; exact rfl; assumption)
            | (apply wr_eqnil_t; exact rfl; exact rfl)
            | (apply wr_eqnil_f; exact rfl; exact rfl)
            | (apply wr_nenil_f; exact rfl; exact rfl)
            | (apply wr_nenil_t; exact rfl; exact rfl)
            | (apply wc_true; exact rfl)
            | (apply wc_false; exact rfl)
            | apply wc_skip
            | apply wc_block
            | (apply wc_exit; try simp only [thenE, inBlockE, bodyQ, ↓reduceIte, Nat.reduceEqDiff])
            | (apply wc_ret; try simp only [thenE, inBlockE, bodyQ])
            | (apply wr_nil; try simp only [thenE, inBlockE, bodyQ])
            | (apply wr_skip; exact rfl))
      refine wr_call (vs := [sl, .int .i64 (K : Int)]) rfl (all_ca (L.map lnum) (K : Int) sl w3 hsl3 (by rw [List.length_map]; omega)) rfl ?_
      rintro va w4 ⟨ho4, hk4⟩
      rw [lsel_all, List.length_map] at ho4
      have hsl4 := hsl3.keep hk4 (fun _ _ h => h)
      repeat (first
            | (apply wr_move; exact rfl; with_reducible (conv => enter [6, 3]; whnf))
            | (apply wr_assign; exact rfl; with_reducible (conv => enter [6, 3]; whnf))
            | apply wr_end
            | apply wc_seq
            | apply wc_region
            | (apply wr_fieldAddr; exact rfl; exact rfl)
            | (apply wr_load; exact rfl; exact rfl; exact rfl; (first | with_reducible assumption | exact heap_alloc_same _ _ | ((repeat (first | refine (heap_alloc_ne _ _ (by (first | omega | (simp only [World.size_alloc, World.putObj_size, ne_eq]; omega)))).trans ?_ | refine (heap_put_ne _ _ (by (first | omega | (simp only [World.size_alloc, World.putObj_size, ne_eq]; omega)))).trans ?_)); (first | with_reducible assumption | exact heap_alloc_same _ _ | exact World.putObj_heap_same (by (first | omega | (simp only [World.size_alloc, World.putObj_size, ne_eq]; omega)))))); exact rfl; conv => enter [6, 3]; whnf)
            | (apply wr_cmp; exact rfl; exact rfl; exact rfl; (first | exact cmp_lt_t (by omega) | exact cmp_lt_f (by omega) | exact cmp_eq_t (by omega) | exact cmp_eq_f (by omega) | exact cmp_ne_t (by omega) | exact cmp_ne_f (by omega) | exact cmp_le_t (by omega) | exact cmp_le_f (by omega) | exact cmp_gt_t (by omega) | exact cmp_gt_f (by omega) | exact cmp_ge_t (by omega) | exact cmp_ge_f (by omega) | exact cmp_lt _ _ | exact cmp_le _ _ | exact cmp_gt _ _ | exact cmp_ge _ _ | exact cmp_eq _ _ | exact cmp_ne _ _))
            | (apply wr_pick (t := true); exact rfl; exact rfl; with_reducible (conv => enter [6, 3]; whnf))
            | (apply wr_pick (t := false); exact rfl; exact rfl; with_reducible (conv => enter [6, 3]; whnf))
            | (apply wr_add; exact rfl; exact rfl; exact rfl; (first | exact w_i64 (by omega) | exact w_u64 (by omega) | exact w_u8 (by omega) | exact w_u16 (by omega) | exact w_i32 (by omega) | exact w_u32 (by omega) | with_reducible assumption | rfl))
            | (apply wr_sub; exact rfl; exact rfl; exact rfl; (first | exact w_i64 (by omega) | exact w_u64 (by omega) | exact w_u8 (by omega) | exact w_u16 (by omega) | exact w_i32 (by omega) | exact w_u32 (by omega) | with_reducible assumption | rfl))
            | (apply wr_mul; exact rfl; exact rfl; exact rfl; (first | exact w_i64 (by omega) | exact w_u64 (by omega) | exact w_u8 (by omega) | exact w_u16 (by omega) | exact w_i32 (by omega) | exact w_u32 (by omega) | with_reducible assumption | rfl))
            | (apply wr_conv; exact rfl; exact rfl; (first | exact w_i64 (by omega) | exact w_u64 (by omega) | exact w_u8 (by omega) | exact w_u16 (by omega) | exact w_i32 (by omega) | exact w_u32 (by omega) | with_reducible assumption | rfl))
            | (apply wr_not; exact rfl; exact rfl)
            | (apply wr_extract; exact rfl; exact rfl; exact rfl; with_reducible (conv => enter [6, 3]; whnf))
            | (apply wr_len_str; exact rfl; exact rfl)
            | (apply wr_len_slice; exact rfl; exact rfl)
            | (apply wr_store; exact rfl; exact rfl; exact rfl; (first | exact rfl | with_reducible assumption); (first | with_reducible assumption | exact heap_alloc_same _ _ | ((repeat (first | refine (heap_alloc_ne _ _ (by (first | omega | (simp only [World.size_alloc, World.putObj_size, ne_eq]; omega)))).trans ?_ | refine (heap_put_ne _ _ (by (first | omega | (simp only [World.size_alloc, World.putObj_size, ne_eq]; omega)))).trans ?_)); (first | with_reducible assumption | exact heap_alloc_same _ _ | exact World.putObj_heap_same (by (first | omega | (simp only [World.size_alloc, World.putObj_size, ne_eq]; omega)))))); exact rfl)
            | (apply wr_box; exact rfl; exact rfl)
            | (apply wr_alloc; exact rfl)
            | (apply wr_cat; exact rfl; exact rfl; exact rfl; (first | omega | (simp only [List.length_append]; omega)))
            | (apply wr_streqc; exact rfl; exact rfl; exact rfl; (first | exact decide_eq_true (by with_reducible assumption) | exact decide_eq_false (by with_reducible assumption) | exact decide_eq_true rfl | exact rfl))
            | (apply wr_strnec; exact rfl; exact rfl; exact rfl; (first | exact decide_eq_true (by with_reducible assumption) | exact decide_eq_false (by with_reducible assumption) | exact decide_eq_true rfl | exact rfl); with_reducible (conv => enter [6, 3]; whnf))
            | (apply wr_bits; exact rfl; (focus (simp; done)); exact rfl; exact rfl; assumption)
            | (apply wr_eqnil_t; exact rfl; exact rfl)
            | (apply wr_eqnil_f; exact rfl; exact rfl)
            | (apply wr_nenil_f; exact rfl; exact rfl)
            | (apply wr_nenil_t; exact rfl; exact rfl)
            | (apply wc_true; exact rfl)
            | (apply wc_false; exact rfl)
            | apply wc_skip
            | apply wc_block
            | (apply wc_exit; try simp only [thenE, inBlockE, bodyQ, ↓reduceIte, Nat.reduceEqDiff])
            | (apply wc_ret; try simp only [thenE, inBlockE, bodyQ])
            | (apply wr_nil; try simp only [thenE, inBlockE, bodyQ])
            | (apply wr_skip; exact rfl))
      refine wr_call (vs := [sl, .int .i64 (K : Int)]) rfl (last_ca (L.map lnum) (K : Int) sl w4 hsl4 (by rw [List.length_map]; omega)) rfl ?_
      rintro v w5 ⟨rfl, hk5⟩
      have hkk5 := hk1.trans (hk2.trans (hk3.trans (hk4.trans hk5)))
      obtain ⟨x0, is, hlv, hcase⟩ : ∃ (x0 : WF) (is : Bool), lastV (lastF (L.map lnum) (K : Int)) = .tuple #[x0.v, .bool is] ∧ ((is = false ∧ (lsel K L).length = 0) ∨ (is = true ∧ 0 < (lsel K L).length ∧ ∃ y, (lsel K L)[(lsel K L).length - 1]? = some y ∧ x0 = lnum y)) := by
        unfold lastF
        rw [lsel_all, List.getLast?_map]
        cases hgl : (lsel K L).getLast? with
        | none => exact ⟨⟨0, 0, 0, []⟩, false, rfl, .inl ⟨rfl, by rw [List.getLast?_eq_none_iff.1 hgl]; rfl⟩⟩
        | some y =>
          refine ⟨lnum y, true, rfl, .inr ⟨rfl, ?_, y, ?_, rfl⟩⟩
          · rcases Nat.eq_zero_or_pos (lsel K L).length with h | h
            · rw [List.eq_nil_of_length_eq_zero h] at hgl; cases hgl
            · exact h
          · rw [← List.getLast?_eq_getElem?]; exact hgl
      rw [hlv]
      obtain ⟨x1, x2, x3, x4⟩ := x0
      dsimp only [WF.v]
      obtain ⟨aa, ca, rfl, hca, haa⟩ := (SlR.of_own ho4).shape
      obtain ⟨ar, cr, rfl, hcr, har⟩ := (SlR.of_own ho).shape
      repeat (first
            | (apply wr_move; exact rfl; with_reducible (conv => enter [6, 3]; whnf))
            | (apply wr_assign; exact rfl; with_reducible (conv => enter [6, 3]; whnf))
            | apply wr_end
            | apply wc_seq
            | apply wc_region
            | (apply wr_fieldAddr; exact rfl; exact rfl)
            | (apply wr_load; exact rfl; exact rfl; exact rfl; (first | with_reducible assumption | exact heap_alloc_same _ _ | ((repeat (first | refine (heap_alloc_ne _ _ (by (first | omega | (simp only [World.size_alloc, World.putObj_size, ne_eq]; omega)))).trans ?_ | refine (heap_put_ne _ _ (by (first | omega | (simp only [World.size_alloc, World.putObj_size, ne_eq]; omega)))).trans ?_)); (first | with_reducible assumption | exact heap_alloc_same _ _ | exact World.putObj_heap_same (by (first | omega | (simp only [World.size_alloc, World.putObj_size, ne_eq]; omega)))))); exact rfl; conv => enter [6, 3]; whnf)
            | (apply wr_cmp; exact rfl; exact rfl; exact rfl; (first | exact cmp_lt_t (by omega) | exact cmp_lt_f (by omega) | exact cmp_eq_t (by omega) | exact cmp_eq_f (by omega) | exact cmp_ne_t (by omega) | exact cmp_ne_f (by omega) | exact cmp_le_t (by omega) | exact cmp_le_f (by omega) | exact cmp_gt_t (by omega) | exact cmp_gt_f (by omega) | exact cmp_ge_t (by omega) | exact cmp_ge_f (by omega) | exact cmp_lt _ _ | exact cmp_le _ _ | exact cmp_gt _ _ | exact cmp_ge _ _ | exact cmp_eq _ _ | exact cmp_ne _ _))
            | (apply wr_pick (t := true); exact rfl; exact rfl; with_reducible (conv => enter [6, 3]; whnf))
            | (apply wr_pick (t := false); exact rfl; exact rfl; with_reducible (conv => enter [6, 3]; whnf))
            | (apply wr_add; exact rfl; exact rfl; exact rfl; (first | exact w_i64 (by omega) | exact w_u64 (by omega) | exact w_u8 (by omega) | exact w_u16 (by omega) | exact w_i32 (by omega) | exact w_u32 (by omega) | with_reducible assumption | rfl))
            | (apply wr_sub; exact rfl; exact rfl; exact rfl; (first | exact w_i64 (by omega) | exact w_u64 (by omega) | exact w_u8 (by omega) | exact w_u16 (by omega) | exact w_i32 (by omega) | exact w_u32 (by omega) | with_reducible assumption | rfl))
            | (apply wr_mul; exact rfl; exact rfl; exact rfl; (first | exact w_i64 (by omega) | exact w_u64 (by omega) | exact w_u8 (by omega) | exact w_u16 (by omega) | exact w_i32 (by omega) | exact w_u32 (by omega) | with_reducible assumption | rfl))
            | (apply wr_conv; exact rfl; exact rfl; (first | exact w_i64 (by omega) | exact w_u64 (by omega) | exact w_u8 (by omega) | exact w_u16 (by omega) | exact w_i32 (by omega) | exact w_u32 (by omega) | with_reducible assumption | rfl))
            | (apply wr_not; exact rfl; exact rfl)
            | (apply wr_extract; exact rfl; exact rfl; exact rfl; with_reducible (conv => enter [6, 3]; whnf))
            | (apply wr_len_str; exact rfl; exact rfl)
            | (apply wr_len_slice; exact rfl; exact rfl)
            | (apply wr_store; exact rfl; exact rfl; exact rfl; (first | exact rfl | with_reducible assumption); (first | with_reducible assumption | exact heap_alloc_same _ _ | ((repeat (first | refine (heap_alloc_ne _ _ (by (first | omega | (simp only [World.size_alloc, World.putObj_size, ne_eq]; omega)))).trans ?_ | refine (heap_put_ne _ _ (by (first | omega | (simp only [World.size_alloc, World.putObj_size, ne_eq]; omega)))).trans ?_)); (first | with_reducible assumption | exact heap_alloc_same _ _ | exact World.putObj_heap_same (by (first | omega | (simp only [World.size_alloc, World.putObj_size, ne_eq]; omega)))))); exact rfl)
            | (apply wr_box; exact rfl; exact rfl)
            | (apply wr_alloc; exact rfl)
            | (apply wr_cat; exact rfl; exact rfl; exact rfl; (first | omega | (simp only [List.length_append]; omega)))
            | (apply wr_streqc; exact rfl; exact rfl; exact rfl; (first | exact decide_eq_true (by with_reducible assumption) | exact decide_eq_false (by with_reducible assumption) | exact decide_eq_true rfl | exact rfl))
            | (apply wr_strnec; exact rfl; exact rfl; exact rfl; (first | exact decide_eq_true (by with_reducible assumption) | exact decide_eq_false (by with_reducible assumption) | exact decide_eq_true rfl | exact rfl); with_reducible (conv => enter [6, 3]; whnf))
            | (apply wr_bits; exact rfl; (focus (simp; done)); exact rfl; exact rfl; assumption)
            | (apply wr_eqnil_t; exact rfl; exact rfl)
            | (apply wr_eqnil_f; exact rfl; exact rfl)
            | (apply wr_nenil_f; exact rfl; exact rfl)
            | (apply wr_nenil_t; exact rfl; exact rfl)
            | (apply wc_true; exact rfl)
            | (apply wc_false; exact rfl)
            | apply wc_skip
            | apply wc_block
            | (apply wc_exit; try simp only [thenE, inBlockE, bodyQ, ↓reduceIte, Nat.reduceEqDiff])
            | (apply wc_ret; try simp only [thenE, inBlockE, bodyQ])
            | (apply wr_nil; try simp only [thenE, inBlockE, bodyQ])
            | (apply wr_skip; exact rfl))
      refine wr_storeAll (cs := [.int .i64 x1, .int .i64 x2, .int .u64 (x3 : Int), S x4]) rfl rfl rfl (by intro u hu; simp at hu; rcases hu with rfl | rfl | rfl | rfl <;> rfl) (heap_alloc_same _ _) rfl rfl ?_
      obtain ⟨w6, hw6⟩ : ∃ w6, w6 = (w5.alloc (.cells (Value.agg #[.int .i64 0, .int .i64 0, .int .u64 0, S []]).cells 29)).putObj w5.heap.size (.cells #[.int .i64 x1, .int .i64 x2, .int .u64 (x3 : Int), S x4] 29 (0, 0)) := ⟨_, rfl⟩
      have hk56 : Keeps NoB w5 w6 := by rw [hw6]; exact ((Keeps.refl NoB w5).alloc _).put _ (fun h => by omega)
      have hf6 : w6.heap[w5.heap.size]? = some (.cells #[.int .i64 x1, .int .i64 x2, .int .u64 (x3 : Int), S x4] 29 (0, 0)) := by rw [hw6]; exact World.putObj_heap_same (by simp)
      rw [← hw6]
      clear hw6
      have hkk6 := hkk5.trans hk56
      have hcov : 0 < (lsel K L).length → ∃ b o cur e fr b' o' cur' e' fr', aa = some ⟨b, o, none⟩ ∧ w6.heap[b]? = some (.cells cur e fr) ∧ (∀ j, j < (lsel K L).length * 4 → cur[o + j]? = (FL ((lsel K L).map lnum))[j]?) ∧ ar = some ⟨b', o', none⟩ ∧ w6.heap[b']? = some (.cells cur' e' fr') ∧ (∀ j, j < (lsel K L).length * 1 → cur'[o' + j]? = (u64s (lsel K L))[j]?) := by
        intro hpos
        obtain ⟨b, o, h1, cur, e, fr, h2, h3⟩ := haa hpos
        obtain ⟨b', o', h1', cur', e', fr', h2', h3'⟩ := har hpos
        exact ⟨b, o, cur, e, fr, b', o', cur', e', fr', h1, (hk5.trans hk56).heap h2 (fun h => h), h3, h1', (hk3.trans (hk4.trans (hk5.trans hk56))).heap h2' (fun h => h), h3'⟩
      clear haa har hk56 hkk5 hlv
      repeat (first
            | (apply wr_move; exact rfl; with_reducible (conv => enter [6, 3]; whnf))
            | (apply wr_assign; exact rfl; with_reducible (conv => enter [6, 3]; whnf))
            | apply wr_end
            | apply wc_seq
            | apply wc_region
            | (apply wr_fieldAddr; exact rfl; exact rfl)
            | (apply wr_load; exact rfl; exact rfl; exact rfl; (first | with_reducible assumption | exact heap_alloc_same _ _ | ((repeat (first | refine (heap_alloc_ne _ _ (by (first | omega | (simp only [World.size_alloc, World.putObj_size, ne_eq]; omega)))).trans ?_ | refine (heap_put_ne _ _ (by (first | omega | (simp only [World.size_alloc, World.putObj_size, ne_eq]; omega)))).trans ?_)); (first | with_reducible assumption | exact heap_alloc_same _ _ | exact World.putObj_heap_same (by (first | omega | (simp only [World.size_alloc, World.putObj_size, ne_eq]; omega)))))); exact rfl; conv => enter [6, 3]; whnf)
            | (apply wr_cmp; exact rfl; exact rfl; exact rfl; (first | exact cmp_lt_t (by omega) | exact cmp_lt_f (by omega) | exact cmp_eq_t (by omega) | exact cmp_eq_f (by omega) | exact cmp_ne_t (by omega) | exact cmp_ne_f (by omega) | exact cmp_le_t (by omega) | exact cmp_le_f (by omega) | exact cmp_gt_t (by omega) | exact cmp_gt_f (by omega) | exact cmp_ge_t (by omega) | exact cmp_ge_f (by omega) | exact cmp_lt _ _ | exact cmp_le _ _ | exact cmp_gt _ _ | exact cmp_ge _ _ | exact cmp_eq _ _ | exact cmp_ne _ _))
            | (apply wr_pick (t := true); exact rfl; exact rfl; with_reducible (conv => enter [6, 3]; whnf))
            | (apply wr_pick (t := false); exact rfl; exact rfl; with_reducible (conv => enter [6, 3]; whnf))
            | (apply wr_add; exact rfl; exact rfl; exact rfl; (first | exact w_i64 (by omega) | exact w_u64 (by omega) | exact w_u8 (by omega) | exact w_u16 (by omega) | exact w_i32 (by omega) | exact w_u32 (by omega) | with_reducible assumption | rfl))
            | (apply wr_sub; exact rfl; exact rfl; exact rfl; (first | exact w_i64 (by omega) | exact w_u64 (by omega) | exact w_u8 (by omega) | exact w_u16 (by omega) | exact w_i32 (by omega) | exact w_u32 (by omega) | with_reducible assumption | rfl))
            | (apply wr_mul; exact rfl; exact rfl; exact rfl; (first | exact w_i64 (by omega) | exact w_u64 (by omega) | exact w_u8 (by omega) | exact w_u16 (by omega) | exact w_i32 (by omega) | exact w_u32 (by omega) | with_reducible assumption | rfl))
            | (apply wr_conv; exact rfl; exact rfl; (first | exact w_i64 (by omega) | exact w_u64 (by omega) | exact w_u8 (by omega) | exact w_u16 (by omega) | exact w_i32 (by omega) | exact w_u32 (by omega) | with_reducible assumption | rfl))
            | (apply wr_not; exact rfl; exact rfl)
            | (apply wr_extract; exact rfl; exact rfl; exact rfl; with_reducible (conv => enter [6, 3]; whnf))
            | (apply wr_len_str; exact rfl; exact rfl)
            | (apply wr_len_slice; exact rfl; exact rfl)
            | (apply wr_store; exact rfl; exact rfl; exact rfl; (first | exact rfl | with_reducible assumption); (first | with_reducible assumption | exact heap_alloc_same _ _ | ((repeat (first | refine (heap_alloc_ne _ _ (by (first | omega | (simp only [World.size_alloc, World.putObj_size, ne_eq]; omega)))).trans ?_ | refine (heap_put_ne _ _ (by (first | omega | (simp only [World.size_alloc, World.putObj_size, ne_eq]; omega)))).trans ?_)); (first | with_reducible assumption | exact heap_alloc_same _ _ | exact World.putObj_heap_same (by (first | omega | (simp only [World.size_alloc, World.putObj_size, ne_eq]; omega)))))); exact rfl)
            | (apply wr_box; exact rfl; exact rfl)
            | (apply wr_alloc; exact rfl)
            | (apply wr_cat; exact rfl; exact rfl; exact rfl; (first | omega | (simp only [List.length_append]; omega)))
            | (apply wr_streqc; exact rfl; exact rfl; exact rfl; (first | exact decide_eq_true (by with_reducible assumption) | exact decide_eq_false (by with_reducible assumption) | exact decide_eq_true rfl | exact rfl))
            | (apply wr_strnec; exact rfl; exact rfl; exact rfl; (first | exact decide_eq_true (by with_reducible assumption) | exact decide_eq_false (by with_reducible assumption) | exact decide_eq_true rfl | exact rfl); with_reducible (conv => enter [6, 3]; whnf))
            | (apply wr_bits; exact rfl; (focus (simp; done)); exact rfl; exact rfl; assumption)
            | (apply wr_eqnil_t; exact rfl; exact rfl)
            | (apply wr_eqnil_f; exact rfl; exact rfl)
            | (apply wr_nenil_f; exact rfl; exact rfl)
            | (apply wr_nenil_t; exact rfl; exact rfl)
            | (apply wc_true; exact rfl)
            | (apply wc_false; exact rfl)
            | apply wc_skip
            | apply wc_block
            | (apply wc_exit; try simp only [thenE, inBlockE, bodyQ, ↓reduceIte, Nat.reduceEqDiff])
            | (apply wc_ret; try simp only [thenE, inBlockE, bodyQ])
            | (apply wr_nil; try simp only [thenE, inBlockE, bodyQ])
            | (apply wr_skip; exact rfl))
      refine wc_loopL (α := Nat) (fun i => [(5, .bool true), (8, .slice ar (lsel K L).length cr), (11, .bool true), (12, .slice aa (lsel K L).length ca), (13, .pointer (some ⟨w5.heap.size, 0, none⟩)), (14, .bool is), (15, .int .i64 (i : Int))])
        (fun i ds w' => ds = [] ∧ i ≤ (lsel K L).length ∧ w'.heap = w6.heap ∧ Keeps NoB w w') (fun i => (lsel K L).length - i) 0 ⟨rfl, Nat.zero_le _, rfl, hkk6⟩ ⟨rfl, rfl, rfl, rfl, rfl, rfl, rfl, trivial⟩ ?_
      rintro k ds f1 w7 ⟨rfl, hk, hw7, hk7⟩
      have hf7 : w7.heap[w5.heap.size]? = some (.cells #[.int .i64 x1, .int .i64 x2, .int .u64 (x3 : Int), S x4] 29 (0, 0)) := by rw [hw7]; exact hf6
      by_cases hlt : k < (lsel K L).length
      · obtain ⟨b, o, cur, e, fr, b', o', cur', e', fr', rfl, h2, h3, rfl, h2', h3'⟩ := hcov (by omega)
        rw [← hw7] at h2 h2'
        obtain ⟨y, hy⟩ : ∃ y, (lsel K L)[k]? = some y := ⟨(lsel K L)[k], by simp [hlt]⟩
        have hym : ((lsel K L).map lnum)[k]? = some (lnum y) := by rw [List.getElem?_map, hy]; rfl
        have hyw : cur'[o' + k * 1]? = some (.int .u64 (y : Int)) := by rw [Nat.mul_one, h3' k (by omega), List.getElem?_map, hy]; rfl
        repeat (first
              | (apply wr_move; exact rfl; with_reducible (conv => enter [6, 3]; whnf))
              | (apply wr_assign; exact rfl; with_reducible (conv => enter [6, 3]; whnf))
              | apply wr_end
              | apply wc_seq
              | apply wc_region
              | (apply wr_fieldAddr; exact rfl; exact rfl)
              | (apply wr_load; exact rfl; exact rfl; exact rfl; (first | with_reducible assumption | exact heap_alloc_same _ _ | ((repeat (first | refine (heap_alloc_ne _ _ (by (first | omega | (simp only [World.size_alloc, World.putObj_size, ne_eq]; omega)))).trans ?_ | refine (heap_put_ne _ _ (by (first | omega | (simp only [World.size_alloc, World.putObj_size, ne_eq]; omega)))).trans ?_)); (first | with_reducible assumption | exact heap_alloc_same _ _ | exact World.putObj_heap_same (by (first | omega | (simp only [World.size_alloc, World.putObj_size, ne_eq]; omega)))))); exact rfl; conv => enter [6, 3]; whnf)
              | (apply wr_cmp; exact rfl; exact rfl; exact rfl; (first | exact cmp_lt_t (by omega) | exact cmp_lt_f (by omega) | exact cmp_eq_t (by omega) | exact cmp_eq_f (by omega) | exact cmp_ne_t (by omega) | exact cmp_ne_f (by omega) | exact cmp_le_t (by omega) | exact cmp_le_f (by omega) | exact cmp_gt_t (by omega) | exact cmp_gt_f (by omega) | exact cmp_ge_t (by omega) | exact cmp_ge_f (by omega) | exact cmp_lt _ _ | exact cmp_le _ _ | exact cmp_gt _ _ | exact cmp_ge _ _ | exact cmp_eq _ _ | exact cmp_ne _ _))
              | (apply wr_pick (t := true); exact rfl; exact rfl; with_reducible (conv => enter [6, 3]; whnf))
              | (apply wr_pick (t := false); exact rfl; exact rfl; with_reducible (conv => enter [6, 3]; whnf))
              | (apply wr_add; exact rfl; exact rfl; exact rfl; (first | exact w_i64 (by omega) | exact w_u64 (by omega) | exact w_u8 (by omega) | exact w_u16 (by omega) | exact w_i32 (by omega) | exact w_u32 (by omega) | with_reducible assumption | rfl))
              | (apply wr_sub; exact rfl; exact rfl; exact rfl; (first | exact w_i64 (by omega) | exact w_u64 (by omega) | exact w_u8 (by omega) | exact w_u16 (by omega) | exact w_i32 (by omega) | exact w_u32 (by omega) | with_reducible assumption | rfl))
              | (apply wr_mul; exact rfl; exact rfl; exact rfl; (first | exact w_i64 (by omega) | exact w_u64 (by omega) | exact w_u8 (by omega) | exact w_u16 (by omega) | exact w_i32 (by omega) | exact w_u32 (by omega) | with_reducible assumption | rfl))
              | (apply wr_conv; exact rfl; exact rfl; (first | exact w_i64 (by omega) | exact w_u64 (by omega) | exact w_u8 (by omega) | exact w_u16 (by omega) | exact w_i32 (by omega) | exact w_u32 (by omega) | with_reducible assumption | rfl))
              | (apply wr_not; exact rfl; exact rfl)
              | (apply wr_extract; exact rfl; exact rfl; exact rfl; with_reducible (conv => enter [6, 3]; whnf))
              | (apply wr_len_str; exact rfl; exact rfl)
              | (apply wr_len_slice; exact rfl; exact rfl)
              | (apply wr_store; exact rfl; exact rfl; exact rfl; (first | exact rfl | with_reducible assumption); (first | with_reducible assumption | exact heap_alloc_same _ _ | ((repeat (first | refine (heap_alloc_ne _ _ (by (first | omega | (simp only [World.size_alloc, World.putObj_size, ne_eq]; omega)))).trans ?_ | refine (heap_put_ne _ _ (by (first | omega | (simp only [World.size_alloc, World.putObj_size, ne_eq]; omega)))).trans ?_)); (first | with_reducible assumption | exact heap_alloc_same _ _ | exact World.putObj_heap_same (by (first | omega | (simp only [World.size_alloc, World.putObj_size, ne_eq]; omega)))))); exact rfl)
              | (apply wr_box; exact rfl; exact rfl)
              | (apply wr_alloc; exact rfl)
              | (apply wr_cat; exact rfl; exact rfl; exact rfl; (first | omega | (simp only [List.length_append]; omega)))
              | (apply wr_streqc; exact rfl; exact rfl; exact rfl; (first | exact decide_eq_true (by with_reducible assumption) | exact decide_eq_false (by with_reducible assumption) | exact decide_eq_true rfl | exact rfl))
              | (apply wr_strnec; exact rfl; exact rfl; exact rfl; (first | exact decide_eq_true (by with_reducible assumption) | exact decide_eq_false (by with_reducible assumption) | exact decide_eq_true rfl | exact rfl); with_reducible (conv => enter [6, 3]; whnf))
              | (apply wr_bits; exact rfl; (focus (simp; done)); exact rfl; exact rfl; assumption)
              | (apply wr_eqnil_t; exact rfl; exact rfl)
              | (apply wr_eqnil_f; exact rfl; exact rfl)
              | (apply wr_nenil_f; exact rfl; exact rfl)
              | (apply wr_nenil_t; exact rfl; exact rfl)
              | (apply wc_true; exact rfl)
              | (apply wc_false; exact rfl)
              | apply wc_skip
              | apply wc_block
              | (apply wc_exit; try simp only [thenE, inBlockE, bodyQ, ↓reduceIte, Nat.reduceEqDiff])
              | (apply wc_ret; try simp only [thenE, inBlockE, bodyQ])
              | (apply wr_nil; try simp only [thenE, inBlockE, bodyQ])
              | (apply wr_skip; exact rfl))
        refine wc_drawS (l := _) (S := fun w' => w' = w7.drew) (by kernel_rfl) (by kernel_rfl) rfl ?_
        apply ch_step
        focus
          intro w' hS
          subst hS
          apply wr_move; exact rfl
          apply wr_nil
          exact ⟨rfl, rfl⟩
        apply ch_step
        focus
          intro w' hS
          subst hS
          apply wr_move; exact rfl
          apply wr_nil
          exact ⟨rfl, rfl⟩
        apply ch_step
        focus
          intro w' hS
          subst hS
          refine wr_indexAddr (i := k) rfl rfl rfl hlt ?_
          apply wr_nil
          exact ⟨rfl, rfl⟩
        apply ch_step
        focus
          intro w' hS
          subst hS
          refine wr_fieldAddr rfl rfl ?_
          apply wr_nil
          exact ⟨rfl, rfl⟩
        apply ch_step
        focus
          intro w' hS
          subst hS
          refine wr_load (v := .int .u64 (y : Int)) rfl rfl rfl h2 (cell_elem (g := WF.cs) (k := 4) (n := (lsel K L).length) (i := k) (j := 2) WF.cs_len h3 hlt hym rfl) ?_
          apply wr_nil
          exact ⟨rfl, rfl⟩
        apply ch_step
        focus
          intro w' hS
          subst hS
          apply wr_move; exact rfl
          apply wr_nil
          exact ⟨rfl, rfl⟩
        apply ch_step
        focus
          intro w' hS
          subst hS
          apply wr_move; exact rfl
          apply wr_nil
          exact ⟨rfl, rfl⟩
        apply ch_step
        focus
          intro w' hS
          subst hS
          refine wr_indexAddr (i := k) rfl rfl rfl hlt ?_
          apply wr_nil
          exact ⟨rfl, rfl⟩
        apply ch_step
        focus
          intro w' hS
          subst hS
          refine wr_load (v := .int .u64 (y : Int)) rfl rfl rfl h2' hyw ?_
          apply wr_nil
          exact ⟨rfl, rfl⟩
        apply ch_step
        focus
          intro w' hS
          subst hS
          apply wr_cmp (c := false); exact rfl; exact rfl; exact rfl; exact cmp_ne_f (by omega)
          apply wr_nil
          exact ⟨rfl, rfl⟩
        refine ch_nil ?_
        intro w' hS
        subst hS
        repeat (first
              | (apply wr_move; exact rfl; with_reducible (conv => enter [6, 3]; whnf))
              | (apply wr_assign; exact rfl; with_reducible (conv => enter [6, 3]; whnf))
              | apply wr_end
              | apply wc_seq
              | apply wc_region
              | (apply wr_fieldAddr; exact rfl; exact rfl)
              | (apply wr_load; exact rfl; exact rfl; exact rfl; (first | with_reducible assumption | exact heap_alloc_same _ _ | ((repeat (first | refine (heap_alloc_ne _ _ (by (first | omega | (simp only [World.size_alloc, World.putObj_size, ne_eq]; omega)))).trans ?_ | refine (heap_put_ne _ _ (by (first | omega | (simp only [World.size_alloc, World.putObj_size, ne_eq]; omega)))).trans ?_)); (first | with_reducible assumption | exact heap_alloc_same _ _ | exact World.putObj_heap_same (by (first | omega | (simp only [World.size_alloc, World.putObj_size, ne_eq]; omega)))))); exact rfl; conv => enter [6, 3]; whnf)
              | (apply wr_cmp; exact rfl; exact rfl; exact rfl; (first | exact cmp_lt_t (by omega) | exact cmp_lt_f (by omega) | exact cmp_eq_t (by omega) | exact cmp_eq_f (by omega) | exact cmp_ne_t (by omega) | exact cmp_ne_f (by omega) | exact cmp_le_t (by omega) | exact cmp_le_f (by omega) | exact cmp_gt_t (by omega) | exact cmp_gt_f (by omega) | exact cmp_ge_t (by omega) | exact cmp_ge_f (by omega) | exact cmp_lt _ _ | exact cmp_le _ _ | exact cmp_gt _ _ | exact cmp_ge _ _ | exact cmp_eq _ _ | exact cmp_ne _ _))
              | (apply wr_pick (t := true); exact rfl; exact rfl; with_reducible (conv => enter [6, 3]; whnf))
              | (apply wr_pick (t := false); exact rfl; exact rfl; with_reducible (conv => enter [6, 3]; whnf))
              | (apply wr_add; exact rfl; exact rfl; exact rfl; (first | exact w_i64 (by omega) | exact w_u64 (by omega) | exact w_u8 (by omega) | exact w_u16 (by omega) | exact w_i32 (by omega) | exact w_u32 (by omega) | with_reducible assumption | rfl))
              | (apply wr_sub; exact rfl; exact rfl; exact rfl; (first | exact w_i64 (by omega) | exact w_u64 (by omega) | exact w_u8 (by omega) | exact w_u16 (by omega) | exact w_i32 (by omega) | exact w_u32 (by omega) | with_reducible assumption | rfl))
              | (apply wr_mul; exact rfl; exact rfl; exact rfl; (first | exact w_i64 (by omega) | exact w_u64 (by omega) | exact w_u8 (by omega) | exact w_u16 (by omega) | exact w_i32 (by omega) | exact w_u32 (by omega) | with_reducible assumption | rfl))
              | (apply wr_conv; exact rfl; exact rfl; (first | exact w_i64 (by omega) | exact w_u64 (by omega) | exact w_u8 (by omega) | exact w_u16 (by omega) | exact w_i32 (by omega) | exact w_u32 (by omega) | with_reducible assumption | rfl))
              | (apply wr_not; exact rfl; exact rfl)
              | (apply wr_extract; exact rfl; exact rfl; exact rfl; with_reducible (conv => enter [6, 3]; whnf))
              | (apply wr_len_str; exact rfl; exact rfl)
              | (apply wr_len_slice; exact rfl; exact rfl)
              | (apply wr_store; exact rfl; exact rfl; exact rfl; (first | exact rfl | with_reducible assumption); (first | with_reducible assumption | exact heap_alloc_same _ _ | ((repeat (first | refine (heap_alloc_ne _ _ (by (first | omega | (simp only [World.size_alloc, World.putObj_size, ne_eq]; omega)))).trans ?_ | refine (heap_put_ne _ _ (by (first | omega | (simp only [World.size_alloc, World.putObj_size, ne_eq]; omega)))).trans ?_)); (first | with_reducible assumption | exact heap_alloc_same _ _ | exact World.putObj_heap_same (by (first | omega | (simp only [World.size_alloc, World.putObj_size, ne_eq]; omega)))))); exact rfl)
              | (apply wr_box; exact rfl; exact rfl)
              | (apply wr_alloc; exact rfl)
              | (apply wr_cat; exact rfl; exact rfl; exact rfl; (first | omega | (simp only [List.length_append]; omega)))
              | (apply wr_streqc; exact rfl; exact rfl; exact rfl; (first | exact decide_eq_true (by with_reducible assumption) | exact decide_eq_false (by with_reducible assumption) | exact decide_eq_true rfl | exact rfl))
              | (apply wr_strnec; exact rfl; exact rfl; exact rfl; (first | exact decide_eq_true (by with_reducible assumption) | exact decide_eq_false (by with_reducible assumption) | exact decide_eq_true rfl | exact rfl); with_reducible (conv => enter [6, 3]; whnf))
              | (apply wr_bits; exact rfl; (focus (simp; done)); exact rfl; exact rfl; assumption)
              | (apply wr_eqnil_t; exact rfl; exact rfl)
              | (apply wr_eqnil_f; exact rfl; exact rfl)
              | (apply wr_nenil_f; exact rfl; exact rfl)
              | (apply wr_nenil_t; exact rfl; exact rfl)
              | (apply wc_true; exact rfl)
              | (apply wc_false; exact rfl)
              | apply wc_skip
              | apply wc_block
              | (apply wc_exit; try simp only [thenE, inBlockE, bodyQ, ↓reduceIte, Nat.reduceEqDiff])
              | (apply wc_ret; try simp only [thenE, inBlockE, bodyQ])
              | (apply wr_nil; try simp only [thenE, inBlockE, bodyQ])
              | (apply wr_skip; exact rfl))
        exact ⟨k + 1, by omega, ⟨by trivial, hlt, hw7, hk7.drew⟩, rfl, rfl, rfl, rfl, rfl, rfl, by simp, trivial⟩
      · have hkl : k = (lsel K L).length := by omega
        rcases hcase with ⟨rfl, hz⟩ | ⟨rfl, hpos, y, hy, hx0⟩
        · (repeat (first
      | (apply wr_move; exact rfl; with_reducible (conv => enter [6, 3]; whnf))
      | (apply wr_assign; exact rfl; with_reducible (conv => enter [6, 3]; whnf))
      | apply wr_end
      | apply wc_seq
      | apply wc_region
      | (apply wr_fieldAddr; exact rfl; exact rfl)
      | (apply wr_load; exact rfl; exact rfl; exact rfl; (first | with_reducible assumption | exact heap_alloc_same _ _ | ((repeat (first | refine (heap_alloc_ne _ _ (by (first | omega | (simp only [World.size_alloc, World.putObj_size, ne_eq]; omega)))).trans ?_ | refine (heap_put_ne _ _ (by (first | omega | (simp only [World.size_alloc, World.putObj_size, ne_eq]; omega)))).trans ?_)); (first | with_reducible assumption | exact heap_alloc_same _ _ | exact World.putObj_heap_same (by (first | omega | (simp only [World.size_alloc, World.putObj_size, ne_eq]; omega)))))); exact rfl; conv => enter [6, 3]; whnf)
      | (apply wr_cmp; exact rfl; exact rfl; exact rfl; (first | exact cmp_lt_t (by omega) | exact cmp_lt_f (by omega) | exact cmp_eq_t (by omega) | exact cmp_eq_f (by omega) | exact cmp_ne_t (by omega) | exact cmp_ne_f (by omega) | exact cmp_le_t (by omega) | exact cmp_le_f (by omega) | exact cmp_gt_t (by omega) | exact cmp_gt_f (by omega) | exact cmp_ge_t (by omega) | exact cmp_ge_f (by omega) | exact cmp_lt _ _ | exact cmp_le _ _ | exact cmp_gt _ _ | exact cmp_ge _ _ | exact cmp_eq _ _ | exact cmp_ne _ _))
      | (apply wr_pick (t := true); exact rfl; exact rfl; with_reducible (conv => enter [6, 3]; whnf))
      | (apply wr_pick (t := false); exact rfl; exact rfl; with_reducible (conv => enter [6, 3]; whnf))
      | (apply wr_add; exact rfl; exact rfl; exact rfl; (first | exact w_i64 (by omega) | exact w_u64 (by omega) | exact w_u8 (by omega) | exact w_u16 (by omega) | exact w_i32 (by omega) | exact w_u32 (by omega) | with_reducible assumption | rfl))
      | (apply wr_sub; exact rfl; exact rfl; exact rfl; (first | exact w_i64 (by omega) | exact w_u64 (by omega) | exact w_u8 (by omega) | exact w_u16 (by omega) | exact w_i32 (by omega) | exact w_u32 (by omega) | with_reducible assumption | rfl))
      | (apply wr_mul; exact rfl; exact rfl; exact rfl; (first | exact w_i64 (by omega) | exact w_u64 (by omega) | exact w_u8 (by omega) | exact w_u16 (by omega) | exact w_i32 (by omega) | exact w_u32 (by omega) | with_reducible assumption | rfl))
      | (apply wr_conv; exact rfl; exact rfl; (first | exact w_i64 (by omega) | exact w_u64 (by omega) | exact w_u8 (by omega) | exact w_u16 (by omega) | exact w_i32 (by omega) | exact w_u32 (by omega) | with_reducible assumption | rfl))
      | (apply wr_not; exact rfl; exact rfl)
      | (apply wr_extract; exact rfl; exact rfl; exact rfl; with_reducible (conv => enter [6, 3]; whnf))
      | (apply wr_len_str; exact rfl; exact rfl)
      | (apply wr_len_slice; exact rfl; exact rfl)
      | (apply wr_store; exact rfl; exact rfl; exact rfl; (first | exact rfl | with_reducible assumption); (first | with_reducible assumption | exact heap_alloc_same _ _ | ((repeat (first | refine (heap_alloc_ne _ _ (by (first | omega | (simp only [World.size_alloc, World.putObj_size, ne_eq]; omega)))).trans ?_ | refine (heap_put_ne _ _ (by (first | omega | (simp only [World.size_alloc, World.putObj_size, ne_eq]; omega)))).trans ?_)); (first | with_reducible assumption | exact heap_alloc_same _ _ | exact World.putObj_heap_same (by (first | omega | (simp only [World.size_alloc, World.putObj_size, ne_eq]; omega)))))); exact rfl)
      | (apply wr_box; exact rfl; exact rfl)
      | (apply wr_alloc; exact rfl)
      | (apply wr_cat; exact rfl; exact rfl; exact rfl; (first | omega | (simp only [List.length_append]; omega)))
      | (apply wr_streqc; exact rfl; exact rfl; exact rfl; (first | exact decide_eq_true (by with_reducible assumption) | exact decide_eq_false (by with_reducible assumption) | exact decide_eq_true rfl | exact rfl))
      | (apply wr_strnec; exact rfl; exact rfl; exact rfl; (first | exact decide_eq_true (by with_reducible assumption) | exact decide_eq_false (by with_reducible assumption) | exact decide_eq_true rfl | exact rfl); with_reducible (conv => enter [6, 3]; whnf))
      | (apply wr_bits; exact rfl; (focus (simp; done)); exact rfl; exact rfl; assumption)
      | (apply wr_eqnil_t; exact rfl; exact rfl)
      | (apply wr_eqnil_f; exact rfl; exact rfl)
      | (apply wr_nenil_f; exact rfl; exact rfl)
      | (apply wr_nenil_t; exact rfl; exact rfl)
      | (apply wc_true; exact rfl)
      | (apply wc_false; exact rfl)
      | apply wc_skip
      | apply wc_block
      | (apply wc_exit; try simp only [thenE, inBlockE, bodyQ, ↓reduceIte, Nat.reduceEqDiff])
      | (apply wc_ret; try simp only [thenE, inBlockE, bodyQ])
      | (apply wr_nil; try simp only [thenE, inBlockE, bodyQ])
      | (apply wr_skip; exact rfl)))
          refine wc_drawS (l := _) (S := fun w' => w' = w7.drew) (by kernel_rfl) (by kernel_rfl) rfl ?_
          repeat
            apply ch_step
            focus
              intro w' hS
              subst hS
              repeat (first
                    | (apply wr_move; exact rfl; with_reducible (conv => enter [6, 3]; whnf))
                    | (apply wr_assign; exact rfl; with_reducible (conv => enter [6, 3]; whnf))
                    | apply wr_end
                    | apply wc_seq
                    | apply wc_region
                    | (apply wr_fieldAddr; exact rfl; exact rfl)
                    | (apply wr_load; exact rfl; exact rfl; exact rfl; (first | with_reducible assumption | exact heap_alloc_same _ _ | ((repeat (first | refine (heap_alloc_ne _ _ (by (first | omega | (simp only [World.size_alloc, World.putObj_size, ne_eq]; omega)))).trans ?_ | refine (heap_put_ne _ _ (by (first | omega | (simp only [World.size_alloc, World.putObj_size, ne_eq]; omega)))).trans ?_)); (first | with_reducible assumption | exact heap_alloc_same _ _ | exact World.putObj_heap_same (by (first | omega | (simp only [World.size_alloc, World.putObj_size, ne_eq]; omega)))))); exact rfl; conv => enter [6, 3]; whnf)
                    | (apply wr_cmp; exact rfl; exact rfl; exact rfl; (first | exact cmp_lt_t (by omega) | exact cmp_lt_f (by omega) | exact cmp_eq_t (by omega) | exact cmp_eq_f (by omega) | exact cmp_ne_t (by omega) | exact cmp_ne_f (by omega) | exact cmp_le_t (by omega) | exact cmp_le_f (by omega) | exact cmp_gt_t (by omega) | exact cmp_gt_f (by omega) | exact cmp_ge_t (by omega) | exact cmp_ge_f (by omega) | exact cmp_lt _ _ | exact cmp_le _ _ | exact cmp_gt _ _ | exact cmp_ge _ _ | exact cmp_eq _ _ | exact cmp_ne _ _))
                    | (apply wr_pick (t := true); exact rfl; exact rfl; with_reducible (conv => enter [6, 3]; whnf))
                    | (apply wr_pick (t := false); exact rfl; exact rfl; with_reducible (conv => enter [6, 3]; whnf))
                    | (apply wr_add; exact rfl; exact rfl; exact rfl; (first | exact w_i64 (by omega) | exact w_u64 (by omega) | exact w_u8 (by omega) | exact w_u16 (by omega) | exact w_i32 (by omega) | exact w_u32 (by omega) | with_reducible assumption | rfl))
                    | (apply wr_sub; exact rfl; exact rfl; exact rfl; (first | exact w_i64 (by omega) | exact w_u64 (by omega) | exact w_u8 (by omega) | exact w_u16 (by omega) | exact w_i32 (by omega) | exact w_u32 (by omega) | with_reducible assumption | rfl))
                    | (apply wr_mul; exact rfl; exact rfl; exact rfl; (first | exact w_i64 (by omega) | exact w_u64 (by omega) | exact w_u8 (by omega) | exact w_u16 (by omega) | exact w_i32 (by omega) | exact w_u32 (by omega) | with_reducible assumption | rfl))
                    | (apply wr_conv; exact rfl; exact rfl; (first | exact w_i64 (by omega) | exact w_u64 (by omega) | exact w_u8 (by omega) | exact w_u16 (by omega) | exact w_i32 (by omega) | exact w_u32 (by omega) | with_reducible assumption | rfl))
                    | (apply wr_not; exact rfl; exact rfl)
                    | (apply wr_extract; exact rfl; exact rfl; exact rfl; with_reducible (conv => enter [6, 3]; whnf))
                    | (apply wr_len_str; exact rfl; exact rfl)
                    | (apply wr_len_slice; exact rfl; exact rfl)
                    | (apply wr_store; exact rfl; exact rfl; exact rfl; (first | exact rfl | with_reducible assumption); (first | with_reducible assumption | exact heap_alloc_same _ _ | ((repeat (first | refine (heap_alloc_ne _ _ (by (first | omega | (simp only [World.size_alloc, World.putObj_size, ne_eq]; omega)))).trans ?_ | refine (heap_put_ne _ _ (by (first | omega | (simp only [World.size_alloc, World.putObj_size, ne_eq]; omega)))).trans ?_)); (first | with_reducible assumption | exact heap_alloc_same _ _ | exact World.putObj_heap_same (by (first | omega | (simp only [World.size_alloc, World.putObj_size, ne_eq]; omega)))))); exact rfl)
                    | (apply wr_box; exact rfl; exact rfl)
                    | (apply wr_alloc; exact rfl)
                    | (apply wr_cat; exact rfl; exact rfl; exact rfl; (first | omega | (simp only [List.length_append]; omega)))
                    | (apply wr_streqc; exact rfl; exact rfl; exact rfl; (first | exact decide_eq_true (by with_reducible assumption) | exact decide_eq_false (by with_reducible assumption) | exact decide_eq_true rfl | exact rfl))
                    | (apply wr_strnec; exact rfl; exact rfl; exact rfl; (first | exact decide_eq_true (by with_reducible assumption) | exact decide_eq_false (by with_reducible assumption) | exact decide_eq_true rfl | exact rfl); with_reducible (conv => enter [6, 3]; whnf))
                    | (apply wr_bits; exact rfl; (focus (simp; done)); exact rfl; exact rfl; assumption)
                    | (apply wr_eqnil_t; exact rfl; exact rfl)
                    | (apply wr_eqnil_f; exact rfl; exact rfl)
                    | (apply wr_nenil_f; exact rfl; exact rfl)
                    | (apply wr_nenil_t; exact rfl; exact rfl)
                    | (apply wc_true; exact rfl)
                    | (apply wc_false; exact rfl)
                    | apply wc_skip
                    | apply wc_block
                    | (apply wc_exit; try simp only [thenE, inBlockE, bodyQ, ↓reduceIte, Nat.reduceEqDiff])
                    | (apply wc_ret; try simp only [thenE, inBlockE, bodyQ])
                    | (apply wr_nil; try simp only [thenE, inBlockE, bodyQ])
                    | (apply wr_skip; exact rfl))
              exact ⟨rfl, by trivial⟩
          apply ch_step
          focus
            intro w' hS
            subst hS
            refine wr_boolEq (c := true) rfl rfl rfl rfl ?_
            apply wr_nil
            exact ⟨rfl, rfl⟩
          repeat
            apply ch_step
            focus
              intro w' hS
              subst hS
              repeat (first
                    | (apply wr_move; exact rfl; with_reducible (conv => enter [6, 3]; whnf))
                    | (apply wr_assign; exact rfl; with_reducible (conv => enter [6, 3]; whnf))
                    | apply wr_end
                    | apply wc_seq
                    | apply wc_region
                    | (apply wr_fieldAddr; exact rfl; exact rfl)
                    | (apply wr_load; exact rfl; exact rfl; exact rfl; (first | with_reducible assumption | exact heap_alloc_same _ _ | ((repeat (first | refine (heap_alloc_ne _ _ (by (first | omega | (simp only [World.size_alloc, World.putObj_size, ne_eq]; omega)))).trans ?_ | refine (heap_put_ne _ _ (by (first | omega | (simp only [World.size_alloc, World.putObj_size, ne_eq]; omega)))).trans ?_)); (first | with_reducible assumption | exact heap_alloc_same _ _ | exact World.putObj_heap_same (by (first | omega | (simp only [World.size_alloc, World.putObj_size, ne_eq]; omega)))))); exact rfl; conv => enter [6, 3]; whnf)
                    | (apply wr_cmp; exact rfl; exact rfl; exact rfl; (first | exact cmp_lt_t (by omega) | exact cmp_lt_f (by omega) | exact cmp_eq_t (by omega) | exact cmp_eq_f (by omega) | exact cmp_ne_t (by omega) | exact cmp_ne_f (by omega) | exact cmp_le_t (by omega) | exact cmp_le_f (by omega) | exact cmp_gt_t (by omega) | exact cmp_gt_f (by omega) | exact cmp_ge_t (by omega) | exact cmp_ge_f (by omega) | exact cmp_lt _ _ | exact cmp_le _ _ | exact cmp_gt _ _ | exact cmp_ge _ _ | exact cmp_eq _ _ | exact cmp_ne _ _))
                    | (apply wr_pick (t := true); exact rfl; exact rfl; with_reducible (conv => enter [6, 3]; whnf))
                    | (apply wr_pick (t := false); exact rfl; exact rfl; with_reducible (conv => enter [6, 3]; whnf))
                    | (apply wr_add; exact rfl; exact rfl; exact rfl; (first | exact w_i64 (by omega) | exact w_u64 (by omega) | exact w_u8 (by omega) | exact w_u16 (by omega) | exact w_i32 (by omega) | exact w_u32 (by omega) | with_reducible assumption | rfl))
                    | (apply wr_sub; exact rfl; exact rfl; exact rfl; (first | exact w_i64 (by omega) | exact w_u64 (by omega) | exact w_u8 (by omega) | exact w_u16 (by omega) | exact w_i32 (by omega) | exact w_u32 (by omega) | with_reducible assumption | rfl))
                    | (apply wr_mul; exact rfl; exact rfl; exact rfl; (first | exact w_i64 (by omega) | exact w_u64 (by omega) | exact w_u8 (by omega) | exact w_u16 (by omega) | exact w_i32 (by omega) | exact w_u32 (by omega) | with_reducible assumption | rfl))
                    | (apply wr_conv; exact rfl; exact rfl; (first | exact w_i64 (by omega) | exact w_u64 (by omega) | exact w_u8 (by omega) | exact w_u16 (by omega) | exact w_i32 (by omega) | exact w_u32 (by omega) | with_reducible assumption | rfl))
                    | (apply wr_not; exact rfl; exact rfl)
                    | (apply wr_extract; exact rfl; exact rfl; exact rfl; with_reducible (conv => enter [6, 3]; whnf))
                    | (apply wr_len_str; exact rfl; exact rfl)
                    | (apply wr_len_slice; exact rfl; exact rfl)
                    | (apply wr_store; exact rfl; exact rfl; exact rfl; (first | exact rfl | with_reducible assumption); (first | with_reducible assumption | exact heap_alloc_same _ _ | ((repeat (first | refine (heap_alloc_ne _ _ (by (first | omega | (simp only [World.size_alloc, World.putObj_size, ne_eq]; omega)))).trans ?_ | refine (heap_put_ne _ _ (by (first | omega | (simp only [World.size_alloc, World.putObj_size, ne_eq]; omega)))).trans ?_)); (first | with_reducible assumption | exact heap_alloc_same _ _ | exact World.putObj_heap_same (by (first | omega | (simp only [World.size_alloc, World.putObj_size, ne_eq]; omega)))))); exact rfl)
                    | (apply wr_box; exact rfl; exact rfl)
                    | (apply wr_alloc; exact rfl)
                    | (apply wr_cat; exact rfl; exact rfl; exact rfl; (first | omega | (simp only [List.length_append]; omega)))
                    | (apply wr_streqc; exact rfl; exact rfl; exact rfl; (first | exact decide_eq_true (by with_reducible assumption) | exact decide_eq_false (by with_reducible assumption) | exact decide_eq_true rfl | exact rfl))
                    | (apply wr_strnec; exact rfl; exact rfl; exact rfl; (first | exact decide_eq_true (by with_reducible assumption) | exact decide_eq_false (by with_reducible assumption) | exact decide_eq_true rfl | exact rfl); with_reducible (conv => enter [6, 3]; whnf))
                    | (apply wr_bits; exact rfl; (focus (simp; done)); exact rfl; exact rfl; assumption)
                    | (apply wr_eqnil_t; exact rfl; exact rfl)
                    | (apply wr_eqnil_f; exact rfl; exact rfl)
                    | (apply wr_nenil_f; exact rfl; exact rfl)
                    | (apply wr_nenil_t; exact rfl; exact rfl)
                    | (apply wc_true; exact rfl)
                    | (apply wc_false; exact rfl)
                    | apply wc_skip
                    | apply wc_block
                    | (apply wc_exit; try simp only [thenE, inBlockE, bodyQ, ↓reduceIte, Nat.reduceEqDiff])
                    | (apply wc_ret; try simp only [thenE, inBlockE, bodyQ])
                    | (apply wr_nil; try simp only [thenE, inBlockE, bodyQ])
                    | (apply wr_skip; exact rfl))
              exact ⟨rfl, by trivial⟩
          refine ch_nil ?_
          intro w' hS
          subst hS
          repeat (first
                | (apply wr_move; exact rfl; with_reducible (conv => enter [6, 3]; whnf))
                | (apply wr_assign; exact rfl; with_reducible (conv => enter [6, 3]; whnf))
                | apply wr_end
                | apply wc_seq
                | apply wc_region
                | (apply wr_fieldAddr; exact rfl; exact rfl)
                | (apply wr_load; exact rfl; exact rfl; exact rfl; (first | with_reducible assumption | exact heap_alloc_same _ _ | ((repeat (first | refine (heap_alloc_ne _ _ (by (first | omega | (simp only [World.size_alloc, World.putObj_size, ne_eq]; omega)))).trans ?_ | refine (heap_put_ne _ _ (by (first | omega | (simp only [World.size_alloc, World.putObj_size, ne_eq]; omega)))).trans ?_)); (first | with_reducible assumption | exact heap_alloc_same _ _ | exact World.putObj_heap_same (by (first | omega | (simp only [World.size_alloc, World.putObj_size, ne_eq]; omega)))))); exact rfl; conv => enter [6, 3]; whnf)
                | (apply wr_cmp; exact rfl; exact rfl; exact rfl; (first | exact cmp_lt_t (by omega) | exact cmp_lt_f (by omega) | exact cmp_eq_t (by omega) | exact cmp_eq_f (by omega) | exact cmp_ne_t (by omega) | exact cmp_ne_f (by omega) | exact cmp_le_t (by omega) | exact cmp_le_f (by omega) | exact cmp_gt_t (by omega) | exact cmp_gt_f (by omega) | exact cmp_ge_t (by omega) | exact cmp_ge_f (by omega) | exact cmp_lt _ _ | exact cmp_le _ _ | exact cmp_gt _ _ | exact cmp_ge _ _ | exact cmp_eq _ _ | exact cmp_ne _ _))
                | (apply wr_pick (t := true); exact rfl; exact rfl; with_reducible (conv => enter [6, 3]; whnf))
                | (apply wr_pick (t := false); exact rfl; exact rfl; with_reducible (conv => enter [6, 3]; whnf))
                | (apply wr_add; exact rfl; exact rfl; exact rfl; (first | exact w_i64 (by omega) | exact w_u64 (by omega) | exact w_u8 (by omega) | exact w_u16 (by omega) | exact w_i32 (by omega) | exact w_u32 (by omega) | with_reducible assumption | rfl))
                | (apply wr_sub; exact rfl; exact rfl; exact rfl; (first | exact w_i64 (by omega) | exact w_u64 (by omega) | exact w_u8 (by omega) | exact w_u16 (by omega) | exact w_i32 (by omega) | exact w_u32 (by omega) | with_reducible assumption | rfl))
                | (apply wr_mul; exact rfl; exact rfl; exact rfl; (first | exact w_i64 (by omega) | exact w_u64 (by omega) | exact w_u8 (by omega) | exact w_u16 (by omega) | exact w_i32 (by omega) | exact w_u32 (by omega) | with_reducible assumption | rfl))
                | (apply wr_conv; exact rfl; exact rfl; (first | exact w_i64 (by omega) | exact w_u64 (by omega) | exact w_u8 (by omega) | exact w_u16 (by omega) | exact w_i32 (by omega) | exact w_u32 (by omega) | with_reducible assumption | rfl))
                | (apply wr_not; exact rfl; exact rfl)
                | (apply wr_extract; exact rfl; exact rfl; exact rfl; with_reducible (conv => enter [6, 3]; whnf))
                | (apply wr_len_str; exact rfl; exact rfl)
                | (apply wr_len_slice; exact rfl; exact rfl)
                | (apply wr_store; exact rfl; exact rfl; exact rfl; (first | exact rfl | with_reducible assumption); (first | with_reducible assumption | exact heap_alloc_same _ _ | ((repeat (first | refine (heap_alloc_ne _ _ (by (first | omega | (simp only [World.size_alloc, World.putObj_size, ne_eq]; omega)))).trans ?_ | refine (heap_put_ne _ _ (by (first | omega | (simp only [World.size_alloc, World.putObj_size, ne_eq]; omega)))).trans ?_)); (first | with_reducible assumption | exact heap_alloc_same _ _ | exact World.putObj_heap_same (by (first | omega | (simp only [World.size_alloc, World.putObj_size, ne_eq]; omega)))))); exact rfl)
                | (apply wr_box; exact rfl; exact rfl)
                | (apply wr_alloc; exact rfl)
                | (apply wr_cat; exact rfl; exact rfl; exact rfl; (first | omega | (simp only [List.length_append]; omega)))
                | (apply wr_streqc; exact rfl; exact rfl; exact rfl; (first | exact decide_eq_true (by with_reducible assumption) | exact decide_eq_false (by with_reducible assumption) | exact decide_eq_true rfl | exact rfl))
                | (apply wr_strnec; exact rfl; exact rfl; exact rfl; (first | exact decide_eq_true (by with_reducible assumption) | exact decide_eq_false (by with_reducible assumption) | exact decide_eq_true rfl | exact rfl); with_reducible (conv => enter [6, 3]; whnf))
                | (apply wr_bits; exact rfl; (focus (simp; done)); exact rfl; exact rfl; assumption)
                | (apply wr_eqnil_t; exact rfl; exact rfl)
                | (apply wr_eqnil_f; exact rfl; exact rfl)
                | (apply wr_nenil_f; exact rfl; exact rfl)
                | (apply wr_nenil_t; exact rfl; exact rfl)
                | (apply wc_true; exact rfl)
                | (apply wc_false; exact rfl)
                | apply wc_skip
                | apply wc_block
                | (apply wc_exit; try simp only [thenE, inBlockE, bodyQ, ↓reduceIte, Nat.reduceEqDiff])
                | (apply wc_ret; try simp only [thenE, inBlockE, bodyQ])
                | (apply wr_nil; try simp only [thenE, inBlockE, bodyQ])
                | (apply wr_skip; exact rfl))
          exact leave1 (v := .bool true) rfl rfl ⟨rfl, hk7.drew⟩
        · obtain ⟨b, o, cur, e, fr, b', o', cur', e', fr', rfl, h2, h3, rfl, h2', h3'⟩ := hcov hpos
          rw [← hw7] at h2
          have hym : ((lsel K L).map lnum)[(lsel K L).length - 1]? = some ⟨x1, x2, x3, x4⟩ := by rw [List.getElem?_map, hy, hx0]; rfl
          have hcast : ((lsel K L).length : Int) - 1 = (((lsel K L).length - 1 : Nat) : Int) := by omega
          have hlt1 : (lsel K L).length - 1 < (lsel K L).length := by omega
          repeat (first
                | (apply wr_move; exact rfl; with_reducible (conv => enter [6, 3]; whnf))
                | (apply wr_assign; exact rfl; with_reducible (conv => enter [6, 3]; whnf))
                | apply wr_end
                | apply wc_seq
                | apply wc_region
                | (apply wr_fieldAddr; exact rfl; exact rfl)
                | (apply wr_load; exact rfl; exact rfl; exact rfl; (first | with_reducible assumption | exact heap_alloc_same _ _ | ((repeat (first | refine (heap_alloc_ne _ _ (by (first | omega | (simp only [World.size_alloc, World.putObj_size, ne_eq]; omega)))).trans ?_ | refine (heap_put_ne _ _ (by (first | omega | (simp only [World.size_alloc, World.putObj_size, ne_eq]; omega)))).trans ?_)); (first | with_reducible assumption | exact heap_alloc_same _ _ | exact World.putObj_heap_same (by (first | omega | (simp only [World.size_alloc, World.putObj_size, ne_eq]; omega)))))); exact rfl; conv => enter [6, 3]; whnf)
                | (apply wr_cmp; exact rfl; exact rfl; exact rfl; (first | exact cmp_lt_t (by omega) | exact cmp_lt_f (by omega) | exact cmp_eq_t (by omega) | exact cmp_eq_f (by omega) | exact cmp_ne_t (by omega) | exact cmp_ne_f (by omega) | exact cmp_le_t (by omega) | exact cmp_le_f (by omega) | exact cmp_gt_t (by omega) | exact cmp_gt_f (by omega) | exact cmp_ge_t (by omega) | exact cmp_ge_f (by omega) | exact cmp_lt _ _ | exact cmp_le _ _ | exact cmp_gt _ _ | exact cmp_ge _ _ | exact cmp_eq _ _ | exact cmp_ne _ _))
                | (apply wr_pick (t := true); exact rfl; exact rfl; with_reducible (conv => enter [6, 3]; whnf))
                | (apply wr_pick (t := false); exact rfl; exact rfl; with_reducible (conv => enter [6, 3]; whnf))
                | (apply wr_add; exact rfl; exact rfl; exact rfl; (first | exact w_i64 (by omega) | exact w_u64 (by omega) | exact w_u8 (by omega) | exact w_u16 (by omega) | exact w_i32 (by omega) | exact w_u32 (by omega) | with_reducible assumption | rfl))
                | (apply wr_sub; exact rfl; exact rfl; exact rfl; (first | exact w_i64 (by omega) | exact w_u64 (by omega) | exact w_u8 (by omega) | exact w_u16 (by omega) | exact w_i32 (by omega) | exact w_u32 (by omega) | with_reducible assumption | rfl))
                | (apply wr_mul; exact rfl; exact rfl; exact rfl; (first | exact w_i64 (by omega) | exact w_u64 (by omega) | exact w_u8 (by omega) | exact w_u16 (by omega) | exact w_i32 (by omega) | exact w_u32 (by omega) | with_reducible assumption | rfl))
                | (apply wr_conv; exact rfl; exact rfl; (first | exact w_i64 (by omega) | exact w_u64 (by omega) | exact w_u8 (by omega) | exact w_u16 (by omega) | exact w_i32 (by omega) | exact w_u32 (by omega) | with_reducible assumption | rfl))
                | (apply wr_not; exact rfl; exact rfl)
                | (apply wr_extract; exact rfl; exact rfl; exact rfl; with_reducible (conv => enter [6, 3]; whnf))
                | (apply wr_len_str; exact rfl; exact rfl)
                | (apply wr_len_slice; exact rfl; exact rfl)
                | (apply wr_store; exact rfl; exact rfl; exact rfl; (first | exact rfl | with_reducible assumption); (first | with_reducible assumption | exact heap_alloc_same _ _ | ((repeat (first | refine (heap_alloc_ne _ _ (by (first | omega | (simp only [World.size_alloc, World.putObj_size, ne_eq]; omega)))).trans ?_ | refine (heap_put_ne _ _ (by (first | omega | (simp only [World.size_alloc, World.putObj_size, ne_eq]; omega)))).trans ?_)); (first | with_reducible assumption | exact heap_alloc_same _ _ | exact World.putObj_heap_same (by (first | omega | (simp only [World.size_alloc, World.putObj_size, ne_eq]; omega)))))); exact rfl)
                | (apply wr_box; exact rfl; exact rfl)
                | (apply wr_alloc; exact rfl)
                | (apply wr_cat; exact rfl; exact rfl; exact rfl; (first | omega | (simp only [List.length_append]; omega)))
                | (apply wr_streqc; exact rfl; exact rfl; exact rfl; (first | exact decide_eq_true (by with_reducible assumption) | exact decide_eq_false (by with_reducible assumption) | exact decide_eq_true rfl | exact rfl))
                | (apply wr_strnec; exact rfl; exact rfl; exact rfl; (first | exact decide_eq_true (by with_reducible assumption) | exact decide_eq_false (by with_reducible assumption) | exact decide_eq_true rfl | exact rfl); with_reducible (conv => enter [6, 3]; whnf))
                | (apply wr_bits; exact rfl; (focus (simp; done)); exact rfl; exact rfl; assumption)
                | (apply wr_eqnil_t; exact rfl; exact rfl)
                | (apply wr_eqnil_f; exact rfl; exact rfl)
                | (apply wr_nenil_f; exact rfl; exact rfl)
                | (apply wr_nenil_t; exact rfl; exact rfl)
                | (apply wc_true; exact rfl)
                | (apply wc_false; exact rfl)
                | apply wc_skip
                | apply wc_block
                | (apply wc_exit; try simp only [thenE, inBlockE, bodyQ, ↓reduceIte, Nat.reduceEqDiff])
                | (apply wc_ret; try simp only [thenE, inBlockE, bodyQ])
                | (apply wr_nil; try simp only [thenE, inBlockE, bodyQ])
                | (apply wr_skip; exact rfl))
          refine wc_drawS (l := _) (S := fun w' => w' = w7.drew) (by kernel_rfl) (by kernel_rfl) rfl ?_
          repeat
            apply ch_step
            focus
              intro w' hS
              subst hS
              repeat (first
                    | (apply wr_move; exact rfl; with_reducible (conv => enter [6, 3]; whnf))
                    | (apply wr_assign; exact rfl; with_reducible (conv => enter [6, 3]; whnf))
                    | apply wr_end
                    | apply wc_seq
                    | apply wc_region
                    | (apply wr_fieldAddr; exact rfl; exact rfl)
                    | (apply wr_load; exact rfl; exact rfl; exact rfl; (first | with_reducible assumption | exact heap_alloc_same _ _ | ((repeat (first | refine (heap_alloc_ne _ _ (by (first | omega | (simp only [World.size_alloc, World.putObj_size, ne_eq]; omega)))).trans ?_ | refine (heap_put_ne _ _ (by (first | omega | (simp only [World.size_alloc, World.putObj_size, ne_eq]; omega)))).trans ?_)); (first | with_reducible assumption | exact heap_alloc_same _ _ | exact World.putObj_heap_same (by (first | omega | (simp only [World.size_alloc, World.putObj_size, ne_eq]; omega)))))); exact rfl; conv => enter [6, 3]; whnf)
                    | (apply wr_cmp; exact rfl; exact rfl; exact rfl; (first | exact cmp_lt_t (by omega) | exact cmp_lt_f (by omega) | exact cmp_eq_t (by omega) | exact cmp_eq_f (by omega) | exact cmp_ne_t (by omega) | exact cmp_ne_f (by omega) | exact cmp_le_t (by omega) | exact cmp_le_f (by omega) | exact cmp_gt_t (by omega) | exact cmp_gt_f (by omega) | exact cmp_ge_t (by omega) | exact cmp_ge_f (by omega) | exact cmp_lt _ _ | exact cmp_le _ _ | exact cmp_gt _ _ | exact cmp_ge _ _ | exact cmp_eq _ _ | exact cmp_ne _ _))
                    | (apply wr_pick (t := true); exact rfl; exact rfl; with_reducible (conv => enter [6, 3]; whnf))
                    | (apply wr_pick (t := false); exact rfl; exact rfl; with_reducible (conv => enter [6, 3]; whnf))
                    | (apply wr_add; exact rfl; exact rfl; exact rfl; (first | exact w_i64 (by omega) | exact w_u64 (by omega) | exact w_u8 (by omega) | exact w_u16 (by omega) | exact w_i32 (by omega) | exact w_u32 (by omega) | with_reducible assumption | rfl))
                    | (apply wr_sub; exact rfl; exact rfl; exact rfl; (first | exact w_i64 (by omega) | exact w_u64 (by omega) | exact w_u8 (by omega) | exact w_u16 (by omega) | exact w_i32 (by omega) | exact w_u32 (by omega) | with_reducible assumption | rfl))
                    | (apply wr_mul; exact rfl; exact rfl; exact rfl; (first | exact w_i64 (by omega) | exact w_u64 (by omega) | exact w_u8 (by omega) | exact w_u16 (by omega) | exact w_i32 (by omega) | exact w_u32 (by omega) | with_reducible assumption | rfl))
                    | (apply wr_conv; exact rfl; exact rfl; (first | exact w_i64 (by omega) | exact w_u64 (by omega) | exact w_u8 (by omega) | exact w_u16 (by omega) | exact w_i32 (by omega) | exact w_u32 (by omega) | with_reducible assumption | rfl))
                    | (apply wr_not; exact rfl; exact rfl)
                    | (apply wr_extract; exact rfl; exact rfl; exact rfl; with_reducible (conv => enter [6, 3]; whnf))
                    | (apply wr_len_str; exact rfl; exact rfl)
                    | (apply wr_len_slice; exact rfl; exact rfl)
                    | (apply wr_store; exact rfl; exact rfl; exact rfl; (first | exact rfl | with_reducible assumption); (first | with_reducible assumption | exact heap_alloc_same _ _ | ((repeat (first | refine (heap_alloc_ne _ _ (by (first | omega | (simp only [World.size_alloc, World.putObj_size, ne_eq]; omega)))).trans ?_ | refine (heap_put_ne _ _ (by (first | omega | (simp only [World.size_alloc, World.putObj_size, ne_eq]; omega)))).trans ?_)); (first | with_reducible assumption | exact heap_alloc_same _ _ | exact World.putObj_heap_same (by (first | omega | (simp only [World.size_alloc, World.putObj_size, ne_eq]; omega)))))); exact rfl)
                    | (apply wr_box; exact rfl; exact rfl)
                    | (apply wr_alloc; exact rfl)
                    | (apply wr_cat; exact rfl; exact rfl; exact rfl; (first | omega | (simp only [List.length_append]; omega)))
                    | (apply wr_streqc; exact rfl; exact rfl; exact rfl; (first | exact decide_eq_true (by with_reducible assumption) | exact decide_eq_false (by with_reducible assumption) | exact decide_eq_true rfl | exact rfl))
                    | (apply wr_strnec; exact rfl; exact rfl; exact rfl; (first | exact decide_eq_true (by with_reducible assumption) | exact decide_eq_false (by with_reducible assumption) | exact decide_eq_true rfl | exact rfl); with_reducible (conv => enter [6, 3]; whnf))
                    | (apply wr_bits; exact rfl; (focus (simp; done)); exact rfl; exact rfl; assumption)
                    | (apply wr_eqnil_t; exact rfl; exact rfl)
                    | (apply wr_eqnil_f; exact rfl; exact rfl)
                    | (apply wr_nenil_f; exact rfl; exact rfl)
                    | (apply wr_nenil_t; exact rfl; exact rfl)
                    | (apply wc_true; exact rfl)
                    | (apply wc_false; exact rfl)
                    | apply wc_skip
                    | apply wc_block
                    | (apply wc_exit; try simp only [thenE, inBlockE, bodyQ, ↓reduceIte, Nat.reduceEqDiff])
                    | (apply wc_ret; try simp only [thenE, inBlockE, bodyQ])
                    | (apply wr_nil; try simp only [thenE, inBlockE, bodyQ])
                    | (apply wr_skip; exact rfl))
              exact ⟨rfl, by trivial⟩
          apply ch_step
          focus
            intro w' hS
            subst hS
            refine wr_boolEq (c := true) rfl rfl rfl rfl ?_
            apply wr_nil
            exact ⟨rfl, rfl⟩
          repeat
            apply ch_step
            focus
              intro w' hS
              subst hS
              repeat (first
                    | (apply wr_move; exact rfl; with_reducible (conv => enter [6, 3]; whnf))
                    | (apply wr_assign; exact rfl; with_reducible (conv => enter [6, 3]; whnf))
                    | apply wr_end
                    | apply wc_seq
                    | apply wc_region
                    | (apply wr_fieldAddr; exact rfl; exact rfl)
                    | (apply wr_load; exact rfl; exact rfl; exact rfl; (first | with_reducible assumption | exact heap_alloc_same _ _ | ((repeat (first | refine (heap_alloc_ne _ _ (by (first | omega | (simp only [World.size_alloc, World.putObj_size, ne_eq]; omega)))).trans ?_ | refine (heap_put_ne _ _ (by (first | omega | (simp only [World.size_alloc, World.putObj_size, ne_eq]; omega)))).trans ?_)); (first | with_reducible assumption | exact heap_alloc_same _ _ | exact World.putObj_heap_same (by (first | omega | (simp only [World.size_alloc, World.putObj_size, ne_eq]; omega)))))); exact rfl; conv => enter [6, 3]; whnf)
                    | (apply wr_cmp; exact rfl; exact rfl; exact rfl; (first | exact cmp_lt_t (by omega) | exact cmp_lt_f (by omega) | exact cmp_eq_t (by omega) | exact cmp_eq_f (by omega) | exact cmp_ne_t (by omega) | exact cmp_ne_f (by omega) | exact cmp_le_t (by omega) | exact cmp_le_f (by omega) | exact cmp_gt_t (by omega) | exact cmp_gt_f (by omega) | exact cmp_ge_t (by omega) | exact cmp_ge_f (by omega) | exact cmp_lt _ _ | exact cmp_le _ _ | exact cmp_gt _ _ | exact cmp_ge _ _ | exact cmp_eq _ _ | exact cmp_ne _ _))
                    | (apply wr_pick (t := true); exact rfl; exact rfl; with_reducible (conv => enter [6, 3]; whnf))
                    | (apply wr_pick (t := false); exact rfl; exact rfl; with_reducible (conv => enter [6, 3]; whnf))
                    | (apply wr_add; exact rfl; exact rfl; exact rfl; (first | exact w_i64 (by omega) | exact w_u64 (by omega) | exact w_u8 (by omega) | exact w_u16 (by omega) | exact w_i32 (by omega) | exact w_u32 (by omega) | with_reducible assumption | rfl))
                    | (apply wr_sub; exact rfl; exact rfl; exact rfl; (first | exact w_i64 (by omega) | exact w_u64 (by omega) | exact w_u8 (by omega) | exact w_u16 (by omega) | exact w_i32 (by omega) | exact w_u32 (by omega) | with_reducible assumption | rfl))
                    | (apply wr_mul; exact rfl; exact rfl; exact rfl; (first | exact w_i64 (by omega) | exact w_u64 (by omega) | exact w_u8 (by omega) | exact w_u16 (by omega) | exact w_i32 (by omega) | exact w_u32 (by omega) | with_reducible assumption | rfl))
                    | (apply wr_conv; exact rfl; exact rfl; (first | exact w_i64 (by omega) | exact w_u64 (by omega) | exact w_u8 (by omega) | exact w_u16 (by omega) | exact w_i32 (by omega) | exact w_u32 (by omega) | with_reducible assumption | rfl))
                    | (apply wr_not; exact rfl; exact rfl)
                    | (apply wr_extract; exact rfl; exact rfl; exact rfl; with_reducible (conv => enter [6, 3]; whnf))
                    | (apply wr_len_str; exact rfl; exact rfl)
                    | (apply wr_len_slice; exact rfl; exact rfl)
                    | (apply wr_store; exact rfl; exact rfl; exact rfl; (first | exact rfl | with_reducible assumption); (first | with_reducible assumption | exact heap_alloc_same _ _ | ((repeat (first | refine (heap_alloc_ne _ _ (by (first | omega | (simp only [World.size_alloc, World.putObj_size, ne_eq]; omega)))).trans ?_ | refine (heap_put_ne _ _ (by (first | omega | (simp only [World.size_alloc, World.putObj_size, ne_eq]; omega)))).trans ?_)); (first | with_reducible assumption | exact heap_alloc_same _ _ | exact World.putObj_heap_same (by (first | omega | (simp only [World.size_alloc, World.putObj_size, ne_eq]; omega)))))); exact rfl)
                    | (apply wr_box; exact rfl; exact rfl)
                    | (apply wr_alloc; exact rfl)
                    | (apply wr_cat; exact rfl; exact rfl; exact rfl; (first | omega | (simp only [List.length_append]; omega)))
                    | (apply wr_streqc; exact rfl; exact rfl; exact rfl; (first | exact decide_eq_true (by with_reducible assumption) | exact decide_eq_false (by with_reducible assumption) | exact decide_eq_true rfl | exact rfl))
                    | (apply wr_strnec; exact rfl; exact rfl; exact rfl; (first | exact decide_eq_true (by with_reducible assumption) | exact decide_eq_false (by with_reducible assumption) | exact decide_eq_true rfl | exact rfl); with_reducible (conv => enter [6, 3]; whnf))
                    | (apply wr_bits; exact rfl; (focus (simp; done)); exact rfl; exact rfl; assumption)
                    | (apply wr_eqnil_t; exact rfl; exact rfl)
                    | (apply wr_eqnil_f; exact rfl; exact rfl)
                    | (apply wr_nenil_f; exact rfl; exact rfl)
                    | (apply wr_nenil_t; exact rfl; exact rfl)
                    | (apply wc_true; exact rfl)
                    | (apply wc_false; exact rfl)
                    | apply wc_skip
                    | apply wc_block
                    | (apply wc_exit; try simp only [thenE, inBlockE, bodyQ, ↓reduceIte, Nat.reduceEqDiff])
                    | (apply wc_ret; try simp only [thenE, inBlockE, bodyQ])
                    | (apply wr_nil; try simp only [thenE, inBlockE, bodyQ])
                    | (apply wr_skip; exact rfl))
              exact ⟨rfl, by trivial⟩
          apply ch_step
          focus
            intro w' hS
            subst hS
            refine wr_loadAll (cs := [.int .i64 x1, .int .i64 x2, .int .u64 (x3 : Int), S x4]) rfl rfl rfl hf7 rfl ?_
            apply wr_nil
            exact ⟨rfl, rfl⟩
          apply ch_step
          focus
            intro w' hS
            subst hS
            apply wr_move; exact rfl
            apply wr_nil
            exact ⟨rfl, rfl⟩
          apply ch_step
          focus
            intro w' hS
            subst hS
            apply wr_move; exact rfl
            apply wr_nil
            exact ⟨rfl, rfl⟩
          apply ch_step
          focus
            intro w' hS
            subst hS
            apply wr_len_slice; exact rfl; exact rfl
            apply wr_nil
            exact ⟨rfl, rfl⟩
          apply ch_step
          focus
            intro w' hS
            subst hS
            refine wr_sub (c := (((lsel K L).length - 1 : Nat) : Int)) rfl rfl rfl (by rw [hcast]; exact w_i64 (by omega)) ?_
            apply wr_nil
            exact ⟨rfl, rfl⟩
          apply ch_step
          focus
            intro w' hS
            subst hS
            refine wr_indexAddr (i := (lsel K L).length - 1) rfl rfl rfl hlt1 ?_
            apply wr_nil
            exact ⟨rfl, rfl⟩
          apply ch_step
          focus
            intro w' hS
            subst hS
            refine wr_loadElem (G := WF.cs) (n := (lsel K L).length) rfl rfl WF.cs_len rfl h2 h3 hlt1 hym rfl ?_
            apply wr_nil
            exact ⟨rfl, rfl⟩
          apply ch_step
          focus
            intro w' hS
            subst hS
            refine wr_structEq (c := true) rfl rfl rfl wf_stood wf_guard (wf_eqOk ⟨x1, x2, x3, x4⟩ ⟨x1, x2, x3, x4⟩ _) (by simp) ?_
            apply wr_nil
            exact ⟨rfl, rfl⟩
          repeat
            apply ch_step
            focus
              intro w' hS
              subst hS
              repeat (first
                    | (apply wr_move; exact rfl; with_reducible (conv => enter [6, 3]; whnf))
                    | (apply wr_assign; exact rfl; with_reducible (conv => enter [6, 3]; whnf))
                    | apply wr_end
                    | apply wc_seq
                    | apply wc_region
                    | (apply wr_fieldAddr; exact rfl; exact rfl)
                    | (apply wr_load; exact rfl; exact rfl; exact rfl; (first | with_reducible assumption | exact heap_alloc_same _ _ | ((repeat (first | refine (heap_alloc_ne _ _ (by (first | omega | (simp only [World.size_alloc, World.putObj_size, ne_eq]; omega)))).trans ?_ | refine (heap_put_ne _ _ (by (first | omega | (simp only [World.size_alloc, World.putObj_size, ne_eq]; omega)))).trans ?_)); (first | with_reducible assumption | exact heap_alloc_same _ _ | exact World.putObj_heap_same (by (first | omega | (simp only [World.size_alloc, World.putObj_size, ne_eq]; omega)))))); exact rfl; conv => enter [6, 3]; whnf)
                    | (apply wr_cmp; exact rfl; exact rfl; exact rfl; (first | exact cmp_lt_t (by omega) | exact cmp_lt_f (by omega) | exact cmp_eq_t (by omega) | exact cmp_eq_f (by omega) | exact cmp_ne_t (by omega) | exact cmp_ne_f (by omega) | exact cmp_le_t (by omega) | exact cmp_le_f (by omega) | exact cmp_gt_t (by omega) | exact cmp_gt_f (by omega) | exact cmp_ge_t (by omega) | exact cmp_ge_f (by omega) | exact cmp_lt _ _ | exact cmp_le _ _ | exact cmp_gt _ _ | exact cmp_ge _ _ | exact cmp_eq _ _ | exact cmp_ne _ _))
                    | (apply wr_pick (t := true); exact rfl; exact rfl; with_reducible (conv => enter [6, 3]; whnf))
                    | (apply wr_pick (t := false); exact rfl; exact rfl; with_reducible (conv => enter [6, 3]; whnf))
                    | (apply wr_add; exact rfl; exact rfl; exact rfl; (first | exact w_i64 (by omega) | exact w_u64 (by omega) | exact w_u8 (by omega) | exact w_u16 (by omega) | exact w_i32 (by omega) | exact w_u32 (by omega) | with_reducible assumption | rfl))
                    | (apply wr_sub; exact rfl; exact rfl; exact rfl; (first | exact w_i64 (by omega) | exact w_u64 (by omega) | exact w_u8 (by omega) | exact w_u16 (by omega) | exact w_i32 (by omega) | exact w_u32 (by omega) | with_reducible assumption | rfl))
                    | (apply wr_mul; exact rfl; exact rfl; exact rfl; (first | exact w_i64 (by omega) | exact w_u64 (by omega) | exact w_u8 (by omega) | exact w_u16 (by omega) | exact w_i32 (by omega) | exact w_u32 (by omega) | with_reducible assumption | rfl))
                    | (apply wr_conv; exact rfl; exact rfl; (first | exact w_i64 (by omega) | exact w_u64 (by omega) | exact w_u8 (by omega) | exact w_u16 (by omega) | exact w_i32 (by omega) | exact w_u32 (by omega) | with_reducible assumption | rfl))
                    | (apply wr_not; exact rfl; exact rfl)
                    | (apply wr_extract; exact rfl; exact rfl; exact rfl; with_reducible (conv => enter [6, 3]; whnf))
                    | (apply wr_len_str; exact rfl; exact rfl)
                    | (apply wr_len_slice; exact rfl; exact rfl)
                    | (apply wr_store; exact rfl; exact rfl; exact rfl; (first | exact rfl | with_reducible assumption); (first | with_reducible assumption | exact heap_alloc_same _ _ | ((repeat (first | refine (heap_alloc_ne _ _ (by (first | omega | (simp only [World.size_alloc, World.putObj_size, ne_eq]; omega)))).trans ?_ | refine (heap_put_ne _ _ (by (first | omega | (simp only [World.size_alloc, World.putObj_size, ne_eq]; omega)))).trans ?_)); (first | with_reducible assumption | exact heap_alloc_same _ _ | exact World.putObj_heap_same (by (first | omega | (simp only [World.size_alloc, World.putObj_size, ne_eq]; omega)))))); exact rfl)
                    | (apply wr_box; exact rfl; exact rfl)
                    | (apply wr_alloc; exact rfl)
                    | (apply wr_cat; exact rfl; exact rfl; exact rfl; (first | omega | (simp only [List.length_append]; omega)))
                    | (apply wr_streqc; exact rfl; exact rfl; exact rfl; (first | exact decide_eq_true (by with_reducible assumption) | exact decide_eq_false (by with_reducible assumption) | exact decide_eq_true rfl | exact rfl))
                    | (apply wr_strnec; exact rfl; exact rfl; exact rfl; (first | exact decide_eq_true (by with_reducible assumption) | exact decide_eq_false (by with_reducible assumption) | exact decide_eq_true rfl | exact rfl); with_reducible (conv => enter [6, 3]; whnf))
                    | (apply wr_bits; exact rfl; (focus (simp; done)); exact rfl; exact rfl; assumption)
                    | (apply wr_eqnil_t; exact rfl; exact rfl)
                    | (apply wr_eqnil_f; exact rfl; exact rfl)
                    | (apply wr_nenil_f; exact rfl; exact rfl)
                    | (apply wr_nenil_t; exact rfl; exact rfl)
                    | (apply wc_true; exact rfl)
                    | (apply wc_false; exact rfl)
                    | apply wc_skip
                    | apply wc_block
                    | (apply wc_exit; try simp only [thenE, inBlockE, bodyQ, ↓reduceIte, Nat.reduceEqDiff])
                    | (apply wc_ret; try simp only [thenE, inBlockE, bodyQ])
                    | (apply wr_nil; try simp only [thenE, inBlockE, bodyQ])
                    | (apply wr_skip; exact rfl))
              exact ⟨rfl, by trivial⟩
          refine ch_nil ?_
          intro w' hS
          subst hS
          repeat (first
                | (apply wr_move; exact rfl; with_reducible (conv => enter [6, 3]; whnf))
                | (apply wr_assign; exact rfl; with_reducible (conv => enter [6, 3]; whnf))
                | apply wr_end
                | apply wc_seq
                | apply wc_region
                | (apply wr_fieldAddr; exact rfl; exact rfl)
                | (apply wr_load; exact rfl; exact rfl; exact rfl; (first | with_reducible assumption | exact heap_alloc_same _ _ | ((repeat (first | refine (heap_alloc_ne _ _ (by (first | omega | (simp only [World.size_alloc, World.putObj_size, ne_eq]; omega)))).trans ?_ | refine (heap_put_ne _ _ (by (first | omega | (simp only [World.size_alloc, World.putObj_size, ne_eq]; omega)))).trans ?_)); (first | with_reducible assumption | exact heap_alloc_same _ _ | exact World.putObj_heap_same (by (first | omega | (simp only [World.size_alloc, World.putObj_size, ne_eq]; omega)))))); exact rfl; conv => enter [6, 3]; whnf)
                | (apply wr_cmp; exact rfl; exact rfl; exact rfl; (first | exact cmp_lt_t (by omega) | exact cmp_lt_f (by omega) | exact cmp_eq_t (by omega) | exact cmp_eq_f (by omega) | exact cmp_ne_t (by omega) | exact cmp_ne_f (by omega) | exact cmp_le_t (by omega) | exact cmp_le_f (by omega) | exact cmp_gt_t (by omega) | exact cmp_gt_f (by omega) | exact cmp_ge_t (by omega) | exact cmp_ge_f (by omega) | exact cmp_lt _ _ | exact cmp_le _ _ | exact cmp_gt _ _ | exact cmp_ge _ _ | exact cmp_eq _ _ | exact cmp_ne _ _))
                | (apply wr_pick (t := true); exact rfl; exact rfl; with_reducible (conv => enter [6, 3]; whnf))
                | (apply wr_pick (t := false); exact rfl; exact rfl; with_reducible (conv => enter [6, 3]; whnf))
                | (apply wr_add; exact rfl; exact rfl; exact rfl; (first | exact w_i64 (by omega) | exact w_u64 (by omega) | exact w_u8 (by omega) | exact w_u16 (by omega) | exact w_i32 (by omega) | exact w_u32 (by omega) | with_reducible assumption | rfl))
                | (apply wr_sub; exact rfl; exact rfl; exact rfl; (first | exact w_i64 (by omega) | exact w_u64 (by omega) | exact w_u8 (by omega) | exact w_u16 (by omega) | exact w_i32 (by omega) | exact w_u32 (by omega) | with_reducible assumption | rfl))
                | (apply wr_mul; exact rfl; exact rfl; exact rfl; (first | exact w_i64 (by omega) | exact w_u64 (by omega) | exact w_u8 (by omega) | exact w_u16 (by omega) | exact w_i32 (by omega) | exact w_u32 (by omega) | with_reducible assumption | rfl))
                | (apply wr_conv; exact rfl; exact rfl; (first | exact w_i64 (by omega) | exact w_u64 (by omega) | exact w_u8 (by omega) | exact w_u16 (by omega) | exact w_i32 (by omega) | exact w_u32 (by omega) | with_reducible assumption | rfl))
                | (apply wr_not; exact rfl; exact rfl)
                | (apply wr_extract; exact rfl; exact rfl; exact rfl; with_reducible (conv => enter [6, 3]; whnf))
                | (apply wr_len_str; exact rfl; exact rfl)
                | (apply wr_len_slice; exact rfl; exact rfl)
                | (apply wr_store; exact rfl; exact rfl; exact rfl; (first | exact rfl | with_reducible assumption); (first | with_reducible assumption | exact heap_alloc_same _ _ | ((repeat (first | refine (heap_alloc_ne _ _ (by (first | omega | (simp only [World.size_alloc, World.putObj_size, ne_eq]; omega)))).trans ?_ | refine (heap_put_ne _ _ (by (first | omega | (simp only [World.size_alloc, World.putObj_size, ne_eq]; omega)))).trans ?_)); (first | with_reducible assumption | exact heap_alloc_same _ _ | exact World.putObj_heap_same (by (first | omega | (simp only [World.size_alloc, World.putObj_size, ne_eq]; omega)))))); exact rfl)
                | (apply wr_box; exact rfl; exact rfl)
                | (apply wr_alloc; exact rfl)
                | (apply wr_cat; exact rfl; exact rfl; exact rfl; (first | omega | (simp only [List.length_append]; omega)))
                | (apply wr_streqc; exact rfl; exact rfl; exact rfl; (first | exact decide_eq_true (by with_reducible assumption) | exact decide_eq_false (by with_reducible assumption) | exact decide_eq_true rfl | exact rfl))
                | (apply wr_strnec; exact rfl; exact rfl; exact rfl; (first | exact decide_eq_true (by with_reducible assumption) | exact decide_eq_false (by with_reducible assumption) | exact decide_eq_true rfl | exact rfl); with_reducible (conv => enter [6, 3]; whnf))
                | (apply wr_bits; exact rfl; (focus (simp; done)); exact rfl; exact rfl; assumption)
                | (apply wr_eqnil_t; exact rfl; exact rfl)
                | (apply wr_eqnil_f; exact rfl; exact rfl)
                | (apply wr_nenil_f; exact rfl; exact rfl)
                | (apply wr_nenil_t; exact rfl; exact rfl)
                | (apply wc_true; exact rfl)
                | (apply wc_false; exact rfl)
                | apply wc_skip
                | apply wc_block
                | (apply wc_exit; try simp only [thenE, inBlockE, bodyQ, ↓reduceIte, Nat.reduceEqDiff])
                | (apply wc_ret; try simp only [thenE, inBlockE, bodyQ])
                | (apply wr_nil; try simp only [thenE, inBlockE, bodyQ])
                | (apply wr_skip; exact rfl))
          exact leave1 (v := .bool true) rfl rfl ⟨rfl, hk7.drew⟩
end Go.Proofs.YtpilcnkgpgkboaaDoor
