/- norialaw01.ref; norialaw01.WirePuts: it is true. -/
import Derived.Test.YtpilcnkgpgkboaaDoorWk
import Derived.Test.YtpilcnkgpgkboaaDoorVC
namespace Go.Proofs.YtpilcnkgpgkboaaDoor
open Go Go.V Go.RowKit
set_option linter.unusedVariables false
set_option linter.unusedSimpArgs false

set_option maxRecDepth 100000 in
set_option maxHeartbeats 2000000 in
theorem ref_ca (l : List WF) (sl : Value) (w : World) (hsl : SlR w 4 sl l.length (FL l)) (hlen : l.length ≤ 1000000000000) :
    Ca Tryd.prog 18 #[sl] w fun v w' => w'.ownsRow w.heap.size 33 4 v l.length (FL l) ∧ Keeps NoB w w' := by
  obtain ⟨a, c, rfl, hc, hat⟩ := hsl.shape
  refine ca_of_body (args := [.slice a l.length c]) Tryd.func18 rfl (by kernel_rfl) ?_
  repeat (first
        | (apply wr_move; exact rfl; with_reducible (conv => enter [6, 3]; whnf))
        | (apply wr_assign; exact rfl; with_reducible (conv => enter [6, 3]; whnf))
        | apply wr_end
        | apply wc_seq
        | apply wc_region
        | (apply wr_fieldAddr; exact rfl; exact rfl)
        | (apply wr_load; exact rfl; exact rfl; exact rfl; (first | with_reducible assumption | exact heap_alloc_same _ _ | ((repeat (first | refine (heap_alloc_ne _ _ (by (first | omega | (simp only [World.size_alloc, World.putObj_size, ne_eq]; omega)))).trans ?_ | refine (heap_put_ne _ _ (by (first | omega | (simp only [World.size_alloc, World.putObj_size, ne_eq]; omega)))).trans ?_)); (first | with_reducible assumption | exact heap_alloc_same _ _ | exact World.putObj_heap_same (by (first | omega | (simp only [World.size_alloc, World.putObj_size, ne_eq]; omega)))))); exact rfl; conv => enter [6, 3]; whnf)
        | (apply wr_cmp; exact rfl; exact rfl; exact rfl; (first | exact cmp_lt_t (by omega) | exact cmp_lt_f (by omega) | exact cmp_eq_t (by omega) | exact cmp_eq_f (by omega) | exact cmp_ne_t (by omega) | exact cmp_ne_f (by omega) | exact cmp_le_t (by omega) | exact cmp_le_f (by omega) | exact cmp_gt_t (by omega) | exact cmp_gt_f (by omega) | exact cmp_ge_t (by omega) | exact cmp_ge_f (by omega) | exact cmp_lt _ _ | exact cmp_le _ _ | exact cmp_gt _ _ | exact cmp_ge _ _ | exact cmp_eq _ _ | exact cmp_ne _ _))
        | (apply wr_pick (t := true); exact rfl; exact rfl; with_reducible (conv => enter [6, 3]; whnf))
        | (apply wr_pick (t := false); exact rfl; exact rfl; with_reducible (conv => enter [6, 3]; whnf))
        | (apply wr_add; exact rfl; exact rfl; exact rfl; (first | exact w_i64 (by omega) | exact w_u64 (by omega) | exact w_u8 (by omega) | exact w_u16 (by omega) | exact w_i32 (by omega) | exact w_u32 (by omega) | with_reducible assumption | rfl))
        | (apply wr_sub; exact rfl; exact rfl; exact rfl; (first | exact w_i64 (by omega) | exact w_u64 (by omega) | exact w_u8 (by omega) | exact w_u16 (by omega) | exact w_i32 (by omega) | exact w_u32 (by omega) | with_reducible assumption | rfl))
        | (apply wr_mul; exact rfl; exact rfl; exact rfl; (first | exact w_i64 (by omega) | exact w_u64 (by omega) | exact w_u8 (by omega) | exact w_u16 (by omega) | exact w_i32 (by omega) | exact w_u32 (by omega) | with_reducible assumption | rfl))
        | (apply wr_conv; exact rfl; exact rfl; (first | exact w_i64 (by omega) | exact w_u64 (by omega) | exact w_u8 (by omega) | exact w_u16 (by omega) | exact w_i32 (by omega) | exact w_u32 (by omega) | with_reducible assumption | rfl))
        | (apply wr_not; exact rfl; exact rfl)
        | (apply wr_extract; exact rfl; exact rfl; exact rfl; with_reducible (conv => enter [6, 3]; whnf))
        | (apply wr_len_str; exact rfl; exact rfl)
        | (apply wr_len_slice; exact rfl; exact rfl)
        | (apply wr_store; exact rfl; exact rfl; exact rfl; (first | exact rfl | with_reducible assumption); (first | with_reducible assumption | exact heap_alloc_same _ _ | ((repeat (first | refine (heap_alloc_ne _ _ (by (first | omega | (simp only [World.size_alloc, World.putObj_size, ne_eq]; omega)))).trans ?_ | refine (heap_put_ne _ _ (by (first | omega | (simp only [World.size_alloc, World.putObj_size, ne_eq]; omega)))).trans ?_)); (first | with_reducible assumption | exact heap_alloc_same _ _ | exact World.putObj_heap_same (by (first | omega | (simp only [World.size_alloc, World.putObj_size, ne_eq]; omega)))))); exact rfl)
        | (apply wr_box; exact rfl; exact rfl)
        | (apply wr_alloc; exact rfl)
        | (apply wr_cat; exact rfl; exact rfl; exact rfl; (first | omega | (simp only [List.length_append]; omega)))
        | (apply wr_streqc; exact rfl; exact rfl; exact rfl; (first | exact decide_eq_true (by with_reducible assumption) | exact decide_eq_false (by with_reducible assumption) | exact decide_eq_true rfl | exact rfl))
        | (apply wr_strnec; exact rfl; exact rfl; exact rfl; (first | exact decide_eq_true (by with_reducible assumption) | exact decide_eq_false (by with_reducible assumption) | exact decide_eq_true rfl | exact rfl); with_reducible (conv => enter [6, 3]; whnf))
        | (apply wr_bits; exact rfl; (focus (simp; done)); exact rfl; exact rfl; assumption)
        | (apply wr_eqnil_t; exact rfl; exact rfl)
        | (apply wr_eqnil_f; exact rfl; exact rfl)
        | (apply wr_nenil_f; exact rfl; exact rfl)
        | (apply wr_nenil_t; exact rfl; exact rfl)
        | (apply wc_true; exact rfl)
        | (apply wc_false; exact rfl)
        | apply wc_skip
        | apply wc_block
        | (apply wc_exit; try simp only [thenE, inBlockE, bodyQ, ↓reduceIte, Nat.reduceEqDiff])
        | (apply wc_ret; try simp only [thenE, inBlockE, bodyQ])
        | (apply wr_nil; try simp only [thenE, inBlockE, bodyQ])
        | (apply wr_skip; exact rfl))
  refine wc_loopL (α := Nat × Value) (fun x => [(0, .slice a l.length c), (3, x.2), (4, .int .i64 (x.1 : Int))])
    (fun x ds w' => ds = [] ∧ x.1 ≤ l.length ∧ w'.ownsRow w.heap.size 33 4 x.2 (l.take x.1).length (FL (l.take x.1)) ∧ Keeps NoB w w') (fun x => l.length - x.1) (0, .slice none 0 0) ⟨rfl, Nat.zero_le _, ⟨rfl, .inl ⟨rfl, rfl⟩⟩, Keeps.refl _ _⟩ ⟨rfl, rfl, rfl, trivial⟩ ?_
  rintro ⟨i, r⟩ ds f0 w2 ⟨rfl, hi, ho, hk2⟩
  dsimp only at hi ho ⊢
  have htl : (l.take i).length = i := by rw [List.length_take]; omega
  by_cases hlt : i < l.length
  · obtain ⟨b, o, rfl, cur, e, fr, hb, hr⟩ := hat (by omega)
    have hb2 := hk2.heap hb (fun h => h)
    have hsz := hk2.size
    obtain ⟨x, hx⟩ : ∃ x, l[i]? = some x := ⟨l[i], by simp [hlt]⟩
    have htk : l.take (i + 1) = l.take i ++ [x] := by rw [List.take_add_one, hx]; rfl
    obtain ⟨xn, xk, xv, xs⟩ := x
    repeat (first
          | (apply wr_move; exact rfl; with_reducible (conv => enter [6, 3]; whnf))
          | (apply wr_assign; exact rfl; with_reducible (conv => enter [6, 3]; whnf))
          | apply wr_end
          | apply wc_seq
          | apply wc_region
          | (apply wr_fieldAddr; exact rfl; exact rfl)
          | (apply wr_load; exact rfl; exact rfl; exact rfl; (first | with_reducible assumption | exact heap_alloc_same _ _ | ((repeat (first | refine (heap_alloc_ne _ _ (by (first | omega | (simp only [World.size_alloc, World.putObj_size, ne_eq]; omega)))).trans ?_ | refine (heap_put_ne _ _ (by (first | omega | (simp only [World.size_alloc, World.putObj_size, ne_eq]; omega)))).trans ?_)); (first | with_reducible assumption | exact heap_alloc_same _ _ | exact World.putObj_heap_same (by (first | omega | (simp only [World.size_alloc, World.putObj_size, ne_eq]; omega)))))); exact rfl; conv => enter [6, 3]; whnf)
          | (apply wr_cmp; exact rfl; exact rfl; exact rfl; (first | exact cmp_lt_t (by omega) | exact cmp_lt_f (by omega) | exact cmp_eq_t (by omega) | exact cmp_eq_f (by omega) | exact cmp_ne_t (by omega) | exact cmp_ne_f (by omega) | exact cmp_le_t (by omega) | exact cmp_le_f (by omega) | exact cmp_gt_t (by omega) | exact cmp_gt_f (by omega) | exact cmp_ge_t (by omega) | exact cmp_ge_f (by omega) | exact cmp_lt _ _ | exact cmp_le _ _ | exact cmp_gt _ _ | exact cmp_ge _ _ | exact cmp_eq _ _ | exact cmp_ne _ _))
          | (apply wr_pick (t := true); exact rfl; exact rfl; with_reducible (conv => enter [6, 3]; whnf))
          | (apply wr_pick (t := false); exact rfl; exact rfl; with_reducible (conv => enter [6, 3]; whnf))
          | (apply wr_add; exact rfl; exact rfl; exact rfl; (first | exact w_i64 (by omega) | exact w_u64 (by omega) | exact w_u8 (by omega) | exact w_u16 (by omega) | exact w_i32 (by omega) | exact w_u32 (by omega) | with_reducible assumption | rfl))
          | (apply wr_sub; exact rfl; exact rfl; exact rfl; (first | exact w_i64 (by omega) | exact w_u64 (by omega) | exact w_u8 (by omega) | exact w_u16 (by omega) | exact w_i32 (by omega) | exact w_u32 (by omega) | with_reducible assumption | rfl))
          | (apply wr_mul; exact rfl; exact rfl; exact rfl; (first | exact w_i64 (by omega) | exact w_u64 (by omega) | exact w_u8 (by omega) | exact w_u16 (by omega) | exact w_i32 (by omega) | exact w_u32 (by omega) | with_reducible assumption | rfl))
          | (apply wr_conv; exact rfl; exact rfl; (first | exact w_i64 (by omega) | exact w_u64 (by omega) | exact w_u8 (by omega) | exact w_u16 (by omega) | exact w_i32 (by omega) | exact w_u32 (by omega) | with_reducible assumption | rfl))
          | (apply wr_not; exact rfl; exact rfl)
          | (apply wr_extract; exact rfl; exact rfl; exact rfl; with_reducible (conv => enter [6, 3]; whnf))
          | (apply wr_len_str; exact rfl; exact rfl)
          | (apply wr_len_slice; exact rfl; exact rfl)
          | (apply wr_store; exact rfl; exact rfl; exact rfl; (first | exact rfl | with_reducible assumption); (first | with_reducible assumption | exact heap_alloc_same _ _ | ((repeat (first | refine (heap_alloc_ne _ _ (by (first | omega | (simp only [World.size_alloc, World.putObj_size, ne_eq]; omega)))).trans ?_ | refine (heap_put_ne _ _ (by (first | omega | (simp only [World.size_alloc, World.putObj_size, ne_eq]; omega)))).trans ?_)); (first | with_reducible assumption | exact heap_alloc_same _ _ | exact World.putObj_heap_same (by (first | omega | (simp only [World.size_alloc, World.putObj_size, ne_eq]; omega)))))); exact rfl)
          | (apply wr_box; exact rfl; exact rfl)
          | (apply wr_alloc; exact rfl)
          | (apply wr_cat; exact rfl; exact rfl; exact rfl; (first | omega | (simp only [List.length_append]; omega)))
          | (apply wr_streqc; exact rfl; exact rfl; exact rfl; (first | exact decide_eq_true (by with_reducible assumption) | exact decide_eq_false (by with_reducible assumption) | exact decide_eq_true rfl | exact rfl))
          | (apply wr_strnec; exact rfl; exact rfl; exact rfl; (first | exact decide_eq_true (by with_reducible assumption) | exact decide_eq_false (by with_reducible assumption) | exact decide_eq_true rfl | exact rfl); with_reducible (conv => enter [6, 3]; whnf))
          | (apply wr_bits; exact rfl; (focus (simp; done)); exact rfl; exact rfl; assumption)
          | (apply wr_eqnil_t; exact rfl; exact rfl)
          | (apply wr_eqnil_f; exact rfl; exact rfl)
          | (apply wr_nenil_f; exact rfl; exact rfl)
          | (apply wr_nenil_t; exact rfl; exact rfl)
          | (apply wc_true; exact rfl)
          | (apply wc_false; exact rfl)
          | apply wc_skip
          | apply wc_block
          | (apply wc_exit; try simp only [thenE, inBlockE, bodyQ, ↓reduceIte, Nat.reduceEqDiff])
          | (apply wc_ret; try simp only [thenE, inBlockE, bodyQ])
          | (apply wr_nil; try simp only [thenE, inBlockE, bodyQ])
          | (apply wr_skip; exact rfl))
    refine wc_drawT (l := _) 22 (fun w' => w'.heap[b]? = some (.cells cur e fr)) (by kernel_rfl) (by kernel_rfl) (by kernel_rfl) (by decide) ?_
    apply chR_step
    focus
      intro w' hS
      apply wr_move; exact rfl
      apply wr_nil
      exact ⟨rfl, rfl⟩
    apply chR_step
    focus
      intro w' hS
      apply wr_move; exact rfl
      apply wr_nil
      exact ⟨rfl, rfl⟩
    apply chR_step
    focus
      intro w' hS
      apply wr_move; exact rfl
      apply wr_nil
      exact ⟨rfl, rfl⟩
    apply chR_step
    focus
      intro w' hS
      refine wr_indexAddr (i := i) rfl rfl rfl hlt ?_
      apply wr_nil
      exact ⟨rfl, rfl⟩
    apply chR_step
    focus
      intro w' hS
      refine wr_fieldAddr rfl rfl ?_
      apply wr_nil
      exact ⟨rfl, rfl⟩
    apply chR_step
    focus
      intro w' hS
      refine wr_load (v := .int .i64 xn) rfl rfl rfl hS (cell_elem (g := WF.cs) (k := 4) (n := l.length) (i := i) (j := 0) WF.cs_len hr hlt hx rfl) ?_
      apply wr_nil
      exact ⟨rfl, rfl⟩
    apply chR_step
    focus
      intro w' hS
      apply wr_move; exact rfl
      apply wr_nil
      exact ⟨rfl, rfl⟩
    apply chR_step
    focus
      intro w' hS
      apply wr_move; exact rfl
      apply wr_nil
      exact ⟨rfl, rfl⟩
    apply chR_step
    focus
      intro w' hS
      refine wr_indexAddr (i := i) rfl rfl rfl hlt ?_
      apply wr_nil
      exact ⟨rfl, rfl⟩
    apply chR_step
    focus
      intro w' hS
      refine wr_fieldAddr rfl rfl ?_
      apply wr_nil
      exact ⟨rfl, rfl⟩
    apply chR_step
    focus
      intro w' hS
      refine wr_load (v := .int .i64 xk) rfl rfl rfl hS (cell_elem (g := WF.cs) (k := 4) (n := l.length) (i := i) (j := 1) WF.cs_len hr hlt hx rfl) ?_
      apply wr_nil
      exact ⟨rfl, rfl⟩
    apply chR_step
    focus
      intro w' hS
      apply wr_move; exact rfl
      apply wr_nil
      exact ⟨rfl, rfl⟩
    apply chR_step
    focus
      intro w' hS
      apply wr_move; exact rfl
      apply wr_nil
      exact ⟨rfl, rfl⟩
    apply chR_step
    focus
      intro w' hS
      refine wr_indexAddr (i := i) rfl rfl rfl hlt ?_
      apply wr_nil
      exact ⟨rfl, rfl⟩
    apply chR_step
    focus
      intro w' hS
      refine wr_fieldAddr rfl rfl ?_
      apply wr_nil
      exact ⟨rfl, rfl⟩
    apply chR_step
    focus
      intro w' hS
      refine wr_load (v := .int .u64 (xv : Int)) rfl rfl rfl hS (cell_elem (g := WF.cs) (k := 4) (n := l.length) (i := i) (j := 2) WF.cs_len hr hlt hx rfl) ?_
      apply wr_nil
      exact ⟨rfl, rfl⟩
    apply chR_step
    focus
      intro w' hS
      apply wr_move; exact rfl
      apply wr_nil
      exact ⟨rfl, rfl⟩
    apply chR_step
    focus
      intro w' hS
      apply wr_move; exact rfl
      apply wr_nil
      exact ⟨rfl, rfl⟩
    apply chR_step
    focus
      intro w' hS
      refine wr_indexAddr (i := i) rfl rfl rfl hlt ?_
      apply wr_nil
      exact ⟨rfl, rfl⟩
    apply chR_step
    focus
      intro w' hS
      refine wr_fieldAddr rfl rfl ?_
      apply wr_nil
      exact ⟨rfl, rfl⟩
    apply chR_step
    focus
      intro w' hS
      refine wr_load (v := S xs) rfl rfl rfl hS (cell_elem (g := WF.cs) (k := 4) (n := l.length) (i := i) (j := 3) WF.cs_len hr hlt hx rfl) ?_
      apply wr_nil
      exact ⟨rfl, rfl⟩
    apply chR_step
    focus
      intro w' hS
      refine wr_build (ps := [(0, .int .i64 xn), (1, .int .i64 xk), (2, .int .u64 (xv : Int)), (3, S xs)]) (cs := [.int .i64 xn, .int .i64 xk, .int .u64 (xv : Int), S xs]) rfl rfl rfl rfl ?_
      apply wr_nil
      exact ⟨rfl, rfl⟩
    refine chR_nil ?_
    refine sf_step hb2 ?_
    have hod := own_keep ho (Keeps.refl NoB w2).drew (fun b hb h => h)
    refine wr_buildSlice (vs := [.agg #[.int .i64 xn, .int .i64 xk, .int .u64 (xv : Int), S xs]]) rfl rfl (by intro v hv; simp at hv; subst hv; rfl) rfl (by decide) (by decide) (by decide) ?_
    apply wr_nil
    have hb3 : (w2.drew.alloc (.cells ([(.agg #[.int .i64 xn, .int .i64 xk, .int .u64 (xv : Int), S xs] : Value)].flatMap (fun v => v.cells.toList)).toArray 33)).heap[b]? = some (.cells cur e fr) := (heap_alloc_ne _ _ (Nat.ne_of_lt (lt_of_heap (w := w2.drew) hb2))).trans hb2
    refine sf_step hb3 ?_
    refine wr_append (v := r) (n := (l.take i).length) (m := 1) (news := [.int .i64 xn, .int .i64 xk, .int .u64 (xv : Int), S xs]) rfl rfl (hod.alloc _) rfl (heap_alloc_same _ _) rfl (by intro u hu; simp at hu; rcases hu with rfl | rfl | rfl | rfl <;> rfl) rfl (by decide) (by omega) (by omega) (by simp; omega) ?_
    intro r' w3 ho3 hk3 _
    have hbw := lt_of_heap hb
    have hb4 := hk3.heap hb3 (fun h => by have := (hod.lt b h).1; omega)
    apply wr_nil
    refine sf_step hb4 ?_
    apply wr_assign
    exact rfl
    apply wr_nil
    refine sf_nil hb4 ?_
    repeat (first
          | (apply wr_move; exact rfl; with_reducible (conv => enter [6, 3]; whnf))
          | (apply wr_assign; exact rfl; with_reducible (conv => enter [6, 3]; whnf))
          | apply wr_end
          | apply wc_seq
          | apply wc_region
          | (apply wr_fieldAddr; exact rfl; exact rfl)
          | (apply wr_load; exact rfl; exact rfl; exact rfl; (first | with_reducible assumption | exact heap_alloc_same _ _ | ((repeat (first | refine (heap_alloc_ne _ _ (by (first | omega | (simp only [World.size_alloc, World.putObj_size, ne_eq]; omega)))).trans ?_ | refine (heap_put_ne _ _ (by (first | omega | (simp only [World.size_alloc, World.putObj_size, ne_eq]; omega)))).trans ?_)); (first | with_reducible assumption | exact heap_alloc_same _ _ | exact World.putObj_heap_same (by (first | omega | (simp only [World.size_alloc, World.putObj_size, ne_eq]; omega)))))); exact rfl; conv => enter [6, 3]; whnf)
          | (apply wr_cmp; exact rfl; exact rfl; exact rfl; (first | exact cmp_lt_t (by omega) | exact cmp_lt_f (by omega) | exact cmp_eq_t (by omega) | exact cmp_eq_f (by omega) | exact cmp_ne_t (by omega) | exact cmp_ne_f (by omega) | exact cmp_le_t (by omega) | exact cmp_le_f (by omega) | exact cmp_gt_t (by omega) | exact cmp_gt_f (by omega) | exact cmp_ge_t (by omega) | exact cmp_ge_f (by omega) | exact cmp_lt _ _ | exact cmp_le _ _ | exact cmp_gt _ _ | exact cmp_ge _ _ | exact cmp_eq _ _ | exact cmp_ne _ _))
          | (apply wr_pick (t := true); exact rfl; exact rfl; with_reducible (conv => enter [6, 3]; whnf))
          | (apply wr_pick (t := false); exact rfl; exact rfl; with_reducible (conv => enter [6, 3]; whnf))
          | (apply wr_add; exact rfl; exact rfl; exact rfl; (first | exact w_i64 (by omega) | exact w_u64 (by omega) | exact w_u8 (by omega) | exact w_u16 (by omega) | exact w_i32 (by omega) | exact w_u32 (by omega) | with_reducible assumption | rfl))
          | (apply wr_sub; exact rfl; exact rfl; exact rfl; (first | exact w_i64 (by omega) | exact w_u64 (by omega) | exact w_u8 (by omega) | exact w_u16 (by omega) | exact w_i32 (by omega) | exact w_u32 (by omega) | with_reducible assumption | rfl))
          | (apply wr_mul; exact rfl; exact rfl; exact rfl; (first | exact w_i64 (by omega) | exact w_u64 (by omega) | exact w_u8 (by omega) | exact w_u16 (by omega) | exact w_i32 (by omega) | exact w_u32 (by omega) | with_reducible assumption | rfl))
          | (apply wr_conv; exact rfl; exact rfl; (first | exact w_i64 (by omega) | exact w_u64 (by omega) | exact w_u8 (by omega) | exact w_u16 (by omega) | exact w_i32 (by omega) | exact w_u32 (by omega) | with_reducible assumption | rfl))
          | (apply wr_not; exact rfl; exact rfl)
          | (apply wr_extract; exact rfl; exact rfl; exact rfl; with_reducible (conv => enter [6, 3]; whnf))
          | (apply wr_len_str; exact rfl; exact rfl)
          | (apply wr_len_slice; exact rfl; exact rfl)
          | (apply wr_store; exact rfl; exact rfl; exact rfl; (first | exact rfl | with_reducible assumption); (first | with_reducible assumption | exact heap_alloc_same _ _ | ((repeat (first | refine (heap_alloc_ne _ _ (by (first | omega | (simp only [World.size_alloc, World.putObj_size, ne_eq]; omega)))).trans ?_ | refine (heap_put_ne _ _ (by (first | omega | (simp only [World.size_alloc, World.putObj_size, ne_eq]; omega)))).trans ?_)); (first | with_reducible assumption | exact heap_alloc_same _ _ | exact World.putObj_heap_same (by (first | omega | (simp only [World.size_alloc, World.putObj_size, ne_eq]; omega)))))); exact rfl)
          | (apply wr_box; exact rfl; exact rfl)
          | (apply wr_alloc; exact rfl)
          | (apply wr_cat; exact rfl; exact rfl; exact rfl; (first | omega | (simp only [List.length_append]; omega)))
          | (apply wr_streqc; exact rfl; exact rfl; exact rfl; (first | exact decide_eq_true (by with_reducible assumption) | exact decide_eq_false (by with_reducible assumption) | exact decide_eq_true rfl | exact rfl))
          | (apply wr_strnec; exact rfl; exact rfl; exact rfl; (first | exact decide_eq_true (by with_reducible assumption) | exact decide_eq_false (by with_reducible assumption) | exact decide_eq_true rfl | exact rfl); with_reducible (conv => enter [6, 3]; whnf))
          | (apply wr_bits; exact rfl; (focus (simp; done)); exact rfl; exact rfl; assumption)
          | (apply wr_eqnil_t; exact rfl; exact rfl)
          | (apply wr_eqnil_f; exact rfl; exact rfl)
          | (apply wr_nenil_f; exact rfl; exact rfl)
          | (apply wr_nenil_t; exact rfl; exact rfl)
          | (apply wc_true; exact rfl)
          | (apply wc_false; exact rfl)
          | apply wc_skip
          | apply wc_block
          | (apply wc_exit; try simp only [thenE, inBlockE, bodyQ, ↓reduceIte, Nat.reduceEqDiff])
          | (apply wc_ret; try simp only [thenE, inBlockE, bodyQ])
          | (apply wr_nil; try simp only [thenE, inBlockE, bodyQ])
          | (apply wr_skip; exact rfl))
    refine ⟨(i + 1, r'), by dsimp only; omega, ⟨by trivial, hlt, ?_, ?_⟩, rfl, rfl, by simp, trivial⟩
    · show w3.ownsRow _ _ _ _ (l.take (i + 1)).length (FL (l.take (i + 1)))
      rw [htk, FL_snoc, List.length_append]
      exact ho3
    · exact (hk2.drew.alloc _).trans' hk3 fun j hj h => absurd (ho.lt j h).1 (by omega)
  · have he : i = l.length := by omega
    subst he
    rw [List.take_length] at ho
    repeat (first
          | (apply wr_move; exact rfl; with_reducible (conv => enter [6, 3]; whnf))
          | (apply wr_assign; exact rfl; with_reducible (conv => enter [6, 3]; whnf))
          | apply wr_end
          | apply wc_seq
          | apply wc_region
          | (apply wr_fieldAddr; exact rfl; exact rfl)
          | (apply wr_load; exact rfl; exact rfl; exact rfl; (first | with_reducible assumption | exact heap_alloc_same _ _ | ((repeat (first | refine (heap_alloc_ne _ _ (by (first | omega | (simp only [World.size_alloc, World.putObj_size, ne_eq]; omega)))).trans ?_ | refine (heap_put_ne _ _ (by (first | omega | (simp only [World.size_alloc, World.putObj_size, ne_eq]; omega)))).trans ?_)); (first | with_reducible assumption | exact heap_alloc_same _ _ | exact World.putObj_heap_same (by (first | omega | (simp only [World.size_alloc, World.putObj_size, ne_eq]; omega)))))); exact rfl; conv => enter [6, 3]; whnf)
          | (apply wr_cmp; exact rfl; exact rfl; exact rfl; (first | exact cmp_lt_t (by omega) | exact cmp_lt_f (by omega) | exact cmp_eq_t (by omega) | exact cmp_eq_f (by omega) | exact cmp_ne_t (by omega) | exact cmp_ne_f (by omega) | exact cmp_le_t (by omega) | exact cmp_le_f (by omega) | exact cmp_gt_t (by omega) | exact cmp_gt_f (by omega) | exact cmp_ge_t (by omega) | exact cmp_ge_f (by omega) | exact cmp_lt _ _ | exact cmp_le _ _ | exact cmp_gt _ _ | exact cmp_ge _ _ | exact cmp_eq _ _ | exact cmp_ne _ _))
          | (apply wr_pick (t := true); exact rfl; exact rfl; with_reducible (conv => enter [6, 3]; whnf))
          | (apply wr_pick (t := false); exact rfl; exact rfl; with_reducible (conv => enter [6, 3]; whnf))
          | (apply wr_add; exact rfl; exact rfl; exact rfl; (first | exact w_i64 (by omega) | exact w_u64 (by omega) | exact w_u8 (by omega) | exact w_u16 (by omega) | exact w_i32 (by omega) | exact w_u32 (by omega) | with_reducible assumption | rfl))
          | (apply wr_sub; exact rfl; exact rfl; exact rfl; (first | exact w_i64 (by omega) | exact w_u64 (by omega) | exact w_u8 (by omega) | exact w_u16 (by omega) | exact w_i32 (by omega) | exact w_u32 (by omega) | with_reducible assumption | rfl))
          | (apply wr_mul; exact rfl; exact rfl; exact rfl; (first | exact w_i64 (by omega) | exact w_u64 (by omega) | exact w_u8 (by omega) | exact w_u16 (by omega) | exact w_i32 (by omega) | exact w_u32 (by omega) | with_reducible assumption | rfl))
          | (apply wr_conv; exact rfl; exact rfl; (first | exact w_i64 (by omega) | exact w_u64 (by omega) | exact w_u8 (by omega) | exact w_u16 (by omega) | exact w_i32 (by omega) | exact w_u32 (by omega) | with_reducible assumption | rfl))
          | (apply wr_not; exact rfl; exact rfl)
          | (apply wr_extract; exact rfl; exact rfl; exact rfl; with_reducible (conv => enter [6, 3]; whnf))
          | (apply wr_len_str; exact rfl; exact rfl)
          | (apply wr_len_slice; exact rfl; exact rfl)
          | (apply wr_store; exact rfl; exact rfl; exact rfl; (first | exact rfl | with_reducible assumption); (first | with_reducible assumption | exact heap_alloc_same _ _ | ((repeat (first | refine (heap_alloc_ne _ _ (by (first | omega | (simp only [World.size_alloc, World.putObj_size, ne_eq]; omega)))).trans ?_ | refine (heap_put_ne _ _ (by (first | omega | (simp only [World.size_alloc, World.putObj_size, ne_eq]; omega)))).trans ?_)); (first | with_reducible assumption | exact heap_alloc_same _ _ | exact World.putObj_heap_same (by (first | omega | (simp only [World.size_alloc, World.putObj_size, ne_eq]; omega)))))); exact rfl)
          | (apply wr_box; exact rfl; exact rfl)
          | (apply wr_alloc; exact rfl)
          | (apply wr_cat; exact rfl; exact rfl; exact rfl; (first | omega | (simp only [List.length_append]; omega)))
          | (apply wr_streqc; exact rfl; exact rfl; exact rfl; (first | exact decide_eq_true (by with_reducible assumption) | exact decide_eq_false (by with_reducible assumption) | exact decide_eq_true rfl | exact rfl))
          | (apply wr_strnec; exact rfl; exact rfl; exact rfl; (first | exact decide_eq_true (by with_reducible assumption) | exact decide_eq_false (by with_reducible assumption) | exact decide_eq_true rfl | exact rfl); with_reducible (conv => enter [6, 3]; whnf))
          | (apply wr_bits; exact rfl; (focus (simp; done)); exact rfl; exact rfl; assumption)
          | (apply wr_eqnil_t; exact rfl; exact rfl)
          | (apply wr_eqnil_f; exact rfl; exact rfl)
          | (apply wr_nenil_f; exact rfl; exact rfl)
          | (apply wr_nenil_t; exact rfl; exact rfl)
          | (apply wc_true; exact rfl)
          | (apply wc_false; exact rfl)
          | apply wc_skip
          | apply wc_block
          | (apply wc_exit; try simp only [thenE, inBlockE, bodyQ, ↓reduceIte, Nat.reduceEqDiff])
          | (apply wc_ret; try simp only [thenE, inBlockE, bodyQ])
          | (apply wr_nil; try simp only [thenE, inBlockE, bodyQ])
          | (apply wr_skip; exact rfl))
    exact leave1 (v := r) rfl rfl ⟨ho, hk2⟩
theorem tmod_small (a : Int) {b : Int} (hb : 0 < b) : -b < a.tmod b ∧ a.tmod b < b := by
  have h1 := Int.tmod_lt_of_pos a hb
  have h2 := Int.tmod_lt_of_pos (-a) hb
  rw [Int.neg_tmod] at h2
  omega
theorem wc_cutThen {r : Option Nat} {P : Program} {n : Nat} {Q : Post} {ds : List Deferred} {f : Env} {w : World} {c : Code} {K : List Deferred → Env → World → Prop} (J : List Deferred → Env → World → Prop) (h1 : Wc r P n c (thenE J Q) ds f w) (h2 : ∀ ds f w, J ds f w → K ds f w) : Wc r P n c (thenE K Q) ds f w :=
  h1.mono fun e ds f w hq => by cases e <;> first | exact h2 _ _ _ hq | exact hq
set_option maxRecDepth 100000 in
set_option maxHeartbeats 8000000 in
theorem wirePuts_ca {p q : Addr} {w : World} (hg : Glo w p q) (x : WF) (hx : x.ok) (near : Bool) :
    Ca Tryd.prog 4 #[x.v, .bool near] w fun v w' => v = .bool true ∧ Keeps NoB w w' := by
  obtain ⟨hnum, hkind, hn, hs⟩ := hx
  obtain ⟨num, kind, n, s⟩ := x
  simp only at hnum hkind hn hs
  refine ca_of_body (args := [.agg #[.int .i64 num, .int .i64 kind, .int .u64 (n : Int), S s], .bool near]) Tryd.func4 rfl (by kernel_rfl) ?_
  repeat (first
        | (apply wr_move; exact rfl; with_reducible (conv => enter [6, 3]; whnf))
        | (apply wr_assign; exact rfl; with_reducible (conv => enter [6, 3]; whnf))
        | apply wr_end
        | apply wc_seq
        | apply wc_region
        | (apply wr_fieldAddr; exact rfl; exact rfl)
        | (apply wr_load; exact rfl; exact rfl; exact rfl; (first | with_reducible assumption | exact heap_alloc_same _ _ | ((repeat (first | refine (heap_alloc_ne _ _ (by (first | omega | (simp only [World.size_alloc, World.putObj_size, ne_eq]; omega)))).trans ?_ | refine (heap_put_ne _ _ (by (first | omega | (simp only [World.size_alloc, World.putObj_size, ne_eq]; omega)))).trans ?_)); (first | with_reducible assumption | exact heap_alloc_same _ _ | exact World.putObj_heap_same (by (first | omega | (simp only [World.size_alloc, World.putObj_size, ne_eq]; omega)))))); exact rfl; conv => enter [6, 3]; whnf)
        | (apply wr_cmp; exact rfl; exact rfl; exact rfl; (first | exact cmp_lt_t (by omega) | exact cmp_lt_f (by omega) | exact cmp_eq_t (by omega) | exact cmp_eq_f (by omega) | exact cmp_ne_t (by omega) | exact cmp_ne_f (by omega) | exact cmp_le_t (by omega) | exact cmp_le_f (by omega) | exact cmp_gt_t (by omega) | exact cmp_gt_f (by omega) | exact cmp_ge_t (by omega) | exact cmp_ge_f (by omega) | exact cmp_lt _ _ | exact cmp_le _ _ | exact cmp_gt _ _ | exact cmp_ge _ _ | exact cmp_eq _ _ | exact cmp_ne _ _))
        | (apply wr_pick (t := true); exact rfl; exact rfl; with_reducible (conv => enter [6, 3]; whnf))
        | (apply wr_pick (t := false); exact rfl; exact rfl; with_reducible (conv => enter [6, 3]; whnf))
        | (apply wr_add; exact rfl; exact rfl; exact rfl; (first | exact w_i64 (by omega) | exact w_u64 (by omega) | exact w_u8 (by omega) | exact w_u16 (by omega) | exact w_i32 (by omega) | exact w_u32 (by omega) | with_reducible assumption | rfl))
        | (apply wr_sub; exact rfl; exact rfl; exact rfl; (first | exact w_i64 (by omega) | exact w_u64 (by omega) | exact w_u8 (by omega) | exact w_u16 (by omega) | exact w_i32 (by omega) | exact w_u32 (by omega) | with_reducible assumption | rfl))
        | (apply wr_mul; exact rfl; exact rfl; exact rfl; (first | exact w_i64 (by omega) | exact w_u64 (by omega) | exact w_u8 (by omega) | exact w_u16 (by omega) | exact w_i32 (by omega) | exact w_u32 (by omega) | with_reducible assumption | rfl))
        | (apply wr_conv; exact rfl; exact rfl; (first | exact w_i64 (by omega) | exact w_u64 (by omega) | exact w_u8 (by omega) | exact w_u16 (by omega) | exact w_i32 (by omega) | exact w_u32 (by omega) | with_reducible assumption | rfl))
        | (apply wr_not; exact rfl; exact rfl)
        | (apply wr_extract; exact rfl; exact rfl; exact rfl; with_reducible (conv => enter [6, 3]; whnf))
        | (apply wr_len_str; exact rfl; exact rfl)
        | (apply wr_len_slice; exact rfl; exact rfl)
        | (apply wr_store; exact rfl; exact rfl; exact rfl; (first | exact rfl | with_reducible assumption); (first | with_reducible assumption | exact heap_alloc_same _ _ | ((repeat (first | refine (heap_alloc_ne _ _ (by (first | omega | (simp only [World.size_alloc, World.putObj_size, ne_eq]; omega)))).trans ?_ | refine (heap_put_ne _ _ (by (first | omega | (simp only [World.size_alloc, World.putObj_size, ne_eq]; omega)))).trans ?_)); (first | with_reducible assumption | exact heap_alloc_same _ _ | exact World.putObj_heap_same (by (first | omega | (simp only [World.size_alloc, World.putObj_size, ne_eq]; omega)))))); exact rfl)
        | (apply wr_box; exact rfl; exact rfl)
        | (apply wr_alloc; exact rfl)
        | (apply wr_cat; exact rfl; exact rfl; exact rfl; (first | omega | (simp only [List.length_append]; omega)))
        | (apply wr_streqc; exact rfl; exact rfl; exact rfl; (first | exact decide_eq_true (by with_reducible assumption) | exact decide_eq_false (by with_reducible assumption) | exact decide_eq_true rfl | exact rfl))
        | (apply wr_strnec; exact rfl; exact rfl; exact rfl; (first | exact decide_eq_true (by with_reducible assumption) | exact decide_eq_false (by with_reducible assumption) | exact decide_eq_true rfl | exact rfl); with_reducible (conv => enter [6, 3]; whnf))
        | (apply wr_bits; exact rfl; (focus (simp; done)); exact rfl; exact rfl; assumption)
        | (apply wr_eqnil_t; exact rfl; exact rfl)
        | (apply wr_eqnil_f; exact rfl; exact rfl)
        | (apply wr_nenil_f; exact rfl; exact rfl)
        | (apply wr_nenil_t; exact rfl; exact rfl)
        | (apply wc_true; exact rfl)
        | (apply wc_false; exact rfl)
        | apply wc_skip
        | apply wc_block
        | (apply wc_exit; try simp only [thenE, inBlockE, bodyQ, ↓reduceIte, Nat.reduceEqDiff])
        | (apply wc_ret; try simp only [thenE, inBlockE, bodyQ])
        | (apply wr_nil; try simp only [thenE, inBlockE, bodyQ])
        | (apply wr_skip; exact rfl))
  refine wr_call (vs := []) rfl (examples_ca (hg.keep ((Keeps.refl NoB w).alloc _) (fun i hi h => h))) rfl ?_
  rintro v w1 ⟨rfl, hk1⟩
  have hf1 := hk1.heap (heap_alloc_same w (.cells (Value.agg #[.int .i64 num, .int .i64 kind, .int .u64 (n : Int), S s]).cells 29)) (fun h => h)
  have hkk1 := ((Keeps.refl NoB w).alloc (.cells (Value.agg #[.int .i64 num, .int .i64 kind, .int .u64 (n : Int), S s]).cells 29)).trans hk1
  clear hk1
  repeat (first
        | (apply wr_move; exact rfl; with_reducible (conv => enter [6, 3]; whnf))
        | (apply wr_assign; exact rfl; with_reducible (conv => enter [6, 3]; whnf))
        | apply wr_end
        | apply wc_seq
        | apply wc_region
        | (apply wr_fieldAddr; exact rfl; exact rfl)
        | (apply wr_load; exact rfl; exact rfl; exact rfl; (first | with_reducible assumption | exact heap_alloc_same _ _ | ((repeat (first | refine (heap_alloc_ne _ _ (by (first | omega | (simp only [World.size_alloc, World.putObj_size, ne_eq]; omega)))).trans ?_ | refine (heap_put_ne _ _ (by (first | omega | (simp only [World.size_alloc, World.putObj_size, ne_eq]; omega)))).trans ?_)); (first | with_reducible assumption | exact heap_alloc_same _ _ | exact World.putObj_heap_same (by (first | omega | (simp only [World.size_alloc, World.putObj_size, ne_eq]; omega)))))); exact rfl; conv => enter [6, 3]; whnf)
        | (apply wr_cmp; exact rfl; exact rfl; exact rfl; (first | exact cmp_lt_t (by omega) | exact cmp_lt_f (by omega) | exact cmp_eq_t (by omega) | exact cmp_eq_f (by omega) | exact cmp_ne_t (by omega) | exact cmp_ne_f (by omega) | exact cmp_le_t (by omega) | exact cmp_le_f (by omega) | exact cmp_gt_t (by omega) | exact cmp_gt_f (by omega) | exact cmp_ge_t (by omega) | exact cmp_ge_f (by omega) | exact cmp_lt _ _ | exact cmp_le _ _ | exact cmp_gt _ _ | exact cmp_ge _ _ | exact cmp_eq _ _ | exact cmp_ne _ _))
        | (apply wr_pick (t := true); exact rfl; exact rfl; with_reducible (conv => enter [6, 3]; whnf))
        | (apply wr_pick (t := false); exact rfl; exact rfl; with_reducible (conv => enter [6, 3]; whnf))
        | (apply wr_add; exact rfl; exact rfl; exact rfl; (first | exact w_i64 (by omega) | exact w_u64 (by omega) | exact w_u8 (by omega) | exact w_u16 (by omega) | exact w_i32 (by omega) | exact w_u32 (by omega) | with_reducible assumption | rfl))
        | (apply wr_sub; exact rfl; exact rfl; exact rfl; (first | exact w_i64 (by omega) | exact w_u64 (by omega) | exact w_u8 (by omega) | exact w_u16 (by omega) | exact w_i32 (by omega) | exact w_u32 (by omega) | with_reducible assumption | rfl))
        | (apply wr_mul; exact rfl; exact rfl; exact rfl; (first | exact w_i64 (by omega) | exact w_u64 (by omega) | exact w_u8 (by omega) | exact w_u16 (by omega) | exact w_i32 (by omega) | exact w_u32 (by omega) | with_reducible assumption | rfl))
        | (apply wr_conv; exact rfl; exact rfl; (first | exact w_i64 (by omega) | exact w_u64 (by omega) | exact w_u8 (by omega) | exact w_u16 (by omega) | exact w_i32 (by omega) | exact w_u32 (by omega) | with_reducible assumption | rfl))
        | (apply wr_not; exact rfl; exact rfl)
        | (apply wr_extract; exact rfl; exact rfl; exact rfl; with_reducible (conv => enter [6, 3]; whnf))
        | (apply wr_len_str; exact rfl; exact rfl)
        | (apply wr_len_slice; exact rfl; exact rfl)
        | (apply wr_store; exact rfl; exact rfl; exact rfl; (first | exact rfl | with_reducible assumption); (first | with_reducible assumption | exact heap_alloc_same _ _ | ((repeat (first | refine (heap_alloc_ne _ _ (by (first | omega | (simp only [World.size_alloc, World.putObj_size, ne_eq]; omega)))).trans ?_ | refine (heap_put_ne _ _ (by (first | omega | (simp only [World.size_alloc, World.putObj_size, ne_eq]; omega)))).trans ?_)); (first | with_reducible assumption | exact heap_alloc_same _ _ | exact World.putObj_heap_same (by (first | omega | (simp only [World.size_alloc, World.putObj_size, ne_eq]; omega)))))); exact rfl)
        | (apply wr_box; exact rfl; exact rfl)
        | (apply wr_alloc; exact rfl)
        | (apply wr_cat; exact rfl; exact rfl; exact rfl; (first | omega | (simp only [List.length_append]; omega)))
        | (apply wr_streqc; exact rfl; exact rfl; exact rfl; (first | exact decide_eq_true (by with_reducible assumption) | exact decide_eq_false (by with_reducible assumption) | exact decide_eq_true rfl | exact rfl))
        | (apply wr_strnec; exact rfl; exact rfl; exact rfl; (first | exact decide_eq_true (by with_reducible assumption) | exact decide_eq_false (by with_reducible assumption) | exact decide_eq_true rfl | exact rfl); with_reducible (conv => enter [6, 3]; whnf))
        | (apply wr_bits; exact rfl; (focus (simp; done)); exact rfl; exact rfl; assumption)
        | (apply wr_eqnil_t; exact rfl; exact rfl)
        | (apply wr_eqnil_f; exact rfl; exact rfl)
        | (apply wr_nenil_f; exact rfl; exact rfl)
        | (apply wr_nenil_t; exact rfl; exact rfl)
        | (apply wc_true; exact rfl)
        | (apply wc_false; exact rfl)
        | apply wc_skip
        | apply wc_block
        | (apply wc_exit; try simp only [thenE, inBlockE, bodyQ, ↓reduceIte, Nat.reduceEqDiff])
        | (apply wc_ret; try simp only [thenE, inBlockE, bodyQ])
        | (apply wr_nil; try simp only [thenE, inBlockE, bodyQ])
        | (apply wr_skip; exact rfl))
  refine wc_cutThen (fun ds f w' => ds = [] ∧ ∃ x' : WF, (-9223372036854775808 ≤ x'.num ∧ x'.num ≤ 9223372036854775807) ∧ (-9223372036854775808 ≤ x'.kind ∧ x'.kind ≤ 9223372036854775807) ∧ x'.n < 18446744073709551616 ∧ x'.s = s ∧
    Slots f [(2, .pointer (some ⟨w.heap.size, 0, none⟩)), (5, .bool true)] ∧ w'.heap[w.heap.size]? = some (.cells #[.int .i64 x'.num, .int .i64 x'.kind, .int .u64 (x'.n : Int), S x'.s] 29 (0, 0)) ∧ Keeps NoB w w') ?_ ?_
  · have hlt := lt_of_heap hf1
    cases near
    · (repeat (first
      | (apply wr_move; exact rfl; with_reducible (conv => enter [6, 3]; whnf))
      | (apply wr_assign; exact rfl; with_reducible (conv => enter [6, 3]; whnf))
      | apply wr_end
      | apply wc_seq
      | apply wc_region
      | (apply wr_fieldAddr; exact rfl; exact rfl)
      | (apply wr_load; exact rfl; exact rfl; exact rfl; (first | with_reducible assumption | exact heap_alloc_same _ _ | ((repeat (first | refine (heap_alloc_ne _ _ (by (first | omega | (simp only [World.size_alloc, World.putObj_size, ne_eq]; omega)))).trans ?_ | refine (heap_put_ne _ _ (by (first | omega | (simp only [World.size_alloc, World.putObj_size, ne_eq]; omega)))).trans ?_)); (first | with_reducible assumption | exact heap_alloc_same _ _ | exact World.putObj_heap_same (by (first | omega | (simp only [World.size_alloc, World.putObj_size, ne_eq]; omega)))))); exact rfl; conv => enter [6, 3]; whnf)
      | (apply wr_cmp; exact rfl; exact rfl; exact rfl; (first | exact cmp_lt_t (by omega) | exact cmp_lt_f (by omega) | exact cmp_eq_t (by omega) | exact cmp_eq_f (by omega) | exact cmp_ne_t (by omega) | exact cmp_ne_f (by omega) | exact cmp_le_t (by omega) | exact cmp_le_f (by omega) | exact cmp_gt_t (by omega) | exact cmp_gt_f (by omega) | exact cmp_ge_t (by omega) | exact cmp_ge_f (by omega) | exact cmp_lt _ _ | exact cmp_le _ _ | exact cmp_gt _ _ | exact cmp_ge _ _ | exact cmp_eq _ _ | exact cmp_ne _ _))
      | (apply wr_pick (t := true); exact rfl; exact rfl; with_reducible (conv => enter [6, 3]; whnf))
      | (apply wr_pick (t := false); exact rfl; exact rfl; with_reducible (conv => enter [6, 3]; whnf))
      | (apply wr_add; exact rfl; exact rfl; exact rfl; (first | exact w_i64 (by omega) | exact w_u64 (by omega) | exact w_u8 (by omega) | exact w_u16 (by omega) | exact w_i32 (by omega) | exact w_u32 (by omega) | with_reducible assumption | rfl))
      | (apply wr_sub; exact rfl; exact rfl; exact rfl; (first | exact w_i64 (by omega) | exact w_u64 (by omega) | exact w_u8 (by omega) | exact w_u16 (by omega) | exact w_i32 (by omega) | exact w_u32 (by omega) | with_reducible assumption | rfl))
      | (apply wr_mul; exact rfl; exact rfl; exact rfl; (first | exact w_i64 (by omega) | exact w_u64 (by omega) | exact w_u8 (by omega) | exact w_u16 (by omega) | exact w_i32 (by omega) | exact w_u32 (by omega) | with_reducible assumption | rfl))
      | (apply wr_conv; exact rfl; exact rfl; (first | exact w_i64 (by omega) | exact w_u64 (by omega) | exact w_u8 (by omega) | exact w_u16 (by omega) | exact w_i32 (by omega) | exact w_u32 (by omega) | with_reducible assumption | rfl))
      | (apply wr_not; exact rfl; exact rfl)
      | (apply wr_extract; exact rfl; exact rfl; exact rfl; with_reducible (conv => enter [6, 3]; whnf))
      | (apply wr_len_str; exact rfl; exact rfl)
      | (apply wr_len_slice; exact rfl; exact rfl)
      | (apply wr_store; exact rfl; exact rfl; exact rfl; (first | exact rfl | with_reducible assumption); (first | with_reducible assumption | exact heap_alloc_same _ _ | ((repeat (first | refine (heap_alloc_ne _ _ (by (first | omega | (simp only [World.size_alloc, World.putObj_size, ne_eq]; omega)))).trans ?_ | refine (heap_put_ne _ _ (by (first | omega | (simp only [World.size_alloc, World.putObj_size, ne_eq]; omega)))).trans ?_)); (first | with_reducible assumption | exact heap_alloc_same _ _ | exact World.putObj_heap_same (by (first | omega | (simp only [World.size_alloc, World.putObj_size, ne_eq]; omega)))))); exact rfl)
      | (apply wr_box; exact rfl; exact rfl)
      | (apply wr_alloc; exact rfl)
      | (apply wr_cat; exact rfl; exact rfl; exact rfl; (first | omega | (simp only [List.length_append]; omega)))
      | (apply wr_streqc; exact rfl; exact rfl; exact rfl; (first | exact decide_eq_true (by with_reducible assumption) | exact decide_eq_false (by with_reducible assumption) | exact decide_eq_true rfl | exact rfl))
      | (apply wr_strnec; exact rfl; exact rfl; exact rfl; (first | exact decide_eq_true (by with_reducible assumption) | exact decide_eq_false (by with_reducible assumption) | exact decide_eq_true rfl | exact rfl); with_reducible (conv => enter [6, 3]; whnf))
      | (apply wr_bits; exact rfl; (focus (simp; done)); exact rfl; exact rfl; assumption)
      | (apply wr_eqnil_t; exact rfl; exact rfl)
      | (apply wr_eqnil_f; exact rfl; exact rfl)
      | (apply wr_nenil_f; exact rfl; exact rfl)
      | (apply wr_nenil_t; exact rfl; exact rfl)
      | (apply wc_true; exact rfl)
      | (apply wc_false; exact rfl)
      | apply wc_skip
      | apply wc_block
      | (apply wc_exit; try simp only [thenE, inBlockE, bodyQ, ↓reduceIte, Nat.reduceEqDiff])
      | (apply wc_ret; try simp only [thenE, inBlockE, bodyQ])
      | (apply wr_nil; try simp only [thenE, inBlockE, bodyQ])
      | (apply wr_skip; exact rfl)))
      exact ⟨by trivial, ⟨num, kind, n, s⟩, hnum, hkind, hn, rfl, ⟨rfl, rfl, trivial⟩, hf1, hkk1⟩
    · have b1 := tmod_small num (b := 40) (by decide)
      have b2 := tmod_small kind (b := 7) (by decide)
      obtain ⟨num', hnum'⟩ : ∃ z, z = num.tmod 40 := ⟨_, rfl⟩
      obtain ⟨kind', hkind'⟩ : ∃ z, z = kind.tmod 7 := ⟨_, rfl⟩
      rw [← hnum'] at b1
      rw [← hkind'] at b2
      repeat (first
            | (apply wr_move; exact rfl; with_reducible (conv => enter [6, 3]; whnf))
            | (apply wr_assign; exact rfl; with_reducible (conv => enter [6, 3]; whnf))
            | apply wr_end
            | apply wc_seq
            | apply wc_region
            | (apply wr_fieldAddr; exact rfl; exact rfl)
            | (apply wr_load; exact rfl; exact rfl; exact rfl; (first | with_reducible assumption | exact heap_alloc_same _ _ | ((repeat (first | refine (heap_alloc_ne _ _ (by (first | omega | (simp only [World.size_alloc, World.putObj_size, ne_eq]; omega)))).trans ?_ | refine (heap_put_ne _ _ (by (first | omega | (simp only [World.size_alloc, World.putObj_size, ne_eq]; omega)))).trans ?_)); (first | with_reducible assumption | exact heap_alloc_same _ _ | exact World.putObj_heap_same (by (first | omega | (simp only [World.size_alloc, World.putObj_size, ne_eq]; omega)))))); exact rfl; conv => enter [6, 3]; whnf)
            | (apply wr_cmp; exact rfl; exact rfl; exact rfl; (first | exact cmp_lt_t (by omega) | exact cmp_lt_f (by omega) | exact cmp_eq_t (by omega) | exact cmp_eq_f (by omega) | exact cmp_ne_t (by omega) | exact cmp_ne_f (by omega) | exact cmp_le_t (by omega) | exact cmp_le_f (by omega) | exact cmp_gt_t (by omega) | exact cmp_gt_f (by omega) | exact cmp_ge_t (by omega) | exact cmp_ge_f (by omega) | exact cmp_lt _ _ | exact cmp_le _ _ | exact cmp_gt _ _ | exact cmp_ge _ _ | exact cmp_eq _ _ | exact cmp_ne _ _))
            | (apply wr_pick (t := true); exact rfl; exact rfl; with_reducible (conv => enter [6, 3]; whnf))
            | (apply wr_pick (t := false); exact rfl; exact rfl; with_reducible (conv => enter [6, 3]; whnf))
            | (apply wr_add; exact rfl; exact rfl; exact rfl; (first | exact w_i64 (by omega) | exact w_u64 (by omega) | exact w_u8 (by omega) | exact w_u16 (by omega) | exact w_i32 (by omega) | exact w_u32 (by omega) | with_reducible assumption | rfl))
            | (apply wr_sub; exact rfl; exact rfl; exact rfl; (first | exact w_i64 (by omega) | exact w_u64 (by omega) | exact w_u8 (by omega) | exact w_u16 (by omega) | exact w_i32 (by omega) | exact w_u32 (by omega) | with_reducible assumption | rfl))
            | (apply wr_mul; exact rfl; exact rfl; exact rfl; (first | exact w_i64 (by omega) | exact w_u64 (by omega) | exact w_u8 (by omega) | exact w_u16 (by omega) | exact w_i32 (by omega) | exact w_u32 (by omega) | with_reducible assumption | rfl))
            | (apply wr_conv; exact rfl; exact rfl; (first | exact w_i64 (by omega) | exact w_u64 (by omega) | exact w_u8 (by omega) | exact w_u16 (by omega) | exact w_i32 (by omega) | exact w_u32 (by omega) | with_reducible assumption | rfl))
            | (apply wr_not; exact rfl; exact rfl)
            | (apply wr_extract; exact rfl; exact rfl; exact rfl; with_reducible (conv => enter [6, 3]; whnf))
            | (apply wr_len_str; exact rfl; exact rfl)
            | (apply wr_len_slice; exact rfl; exact rfl)
            | (apply wr_store; exact rfl; exact rfl; exact rfl; (first | exact rfl | with_reducible assumption); (first | with_reducible assumption | exact heap_alloc_same _ _ | ((repeat (first | refine (heap_alloc_ne _ _ (by (first | omega | (simp only [World.size_alloc, World.putObj_size, ne_eq]; omega)))).trans ?_ | refine (heap_put_ne _ _ (by (first | omega | (simp only [World.size_alloc, World.putObj_size, ne_eq]; omega)))).trans ?_)); (first | with_reducible assumption | exact heap_alloc_same _ _ | exact World.putObj_heap_same (by (first | omega | (simp only [World.size_alloc, World.putObj_size, ne_eq]; omega)))))); exact rfl)
            | (apply wr_box; exact rfl; exact rfl)
            | (apply wr_alloc; exact rfl)
            | (apply wr_cat; exact rfl; exact rfl; exact rfl; (first | omega | (simp only [List.length_append]; omega)))
            | (apply wr_streqc; exact rfl; exact rfl; exact rfl; (first | exact decide_eq_true (by with_reducible assumption) | exact decide_eq_false (by with_reducible assumption) | exact decide_eq_true rfl | exact rfl))
            | (apply wr_strnec; exact rfl; exact rfl; exact rfl; (first | exact decide_eq_true (by with_reducible assumption) | exact decide_eq_false (by with_reducible assumption) | exact decide_eq_true rfl | exact rfl); with_reducible (conv => enter [6, 3]; whnf))
            | (apply wr_bits; exact rfl; (focus (simp; done)); exact rfl; exact rfl; assumption)
            | (apply wr_eqnil_t; exact rfl; exact rfl)
            | (apply wr_eqnil_f; exact rfl; exact rfl)
            | (apply wr_nenil_f; exact rfl; exact rfl)
            | (apply wr_nenil_t; exact rfl; exact rfl)
            | (apply wc_true; exact rfl)
            | (apply wc_false; exact rfl)
            | apply wc_skip
            | apply wc_block
            | (apply wc_exit; try simp only [thenE, inBlockE, bodyQ, ↓reduceIte, Nat.reduceEqDiff])
            | (apply wc_ret; try simp only [thenE, inBlockE, bodyQ])
            | (apply wr_nil; try simp only [thenE, inBlockE, bodyQ])
            | (apply wr_skip; exact rfl))
      refine wr_rem (c := num') rfl rfl rfl (by decide) hnum'.symm ?_
      repeat (first
            | (apply wr_move; exact rfl; with_reducible (conv => enter [6, 3]; whnf))
            | (apply wr_assign; exact rfl; with_reducible (conv => enter [6, 3]; whnf))
            | apply wr_end
            | apply wc_seq
            | apply wc_region
            | (apply wr_fieldAddr; exact rfl; exact rfl)
            | (apply wr_load; exact rfl; exact rfl; exact rfl; (first | with_reducible assumption | exact heap_alloc_same _ _ | ((repeat (first | refine (heap_alloc_ne _ _ (by (first | omega | (simp only [World.size_alloc, World.putObj_size, ne_eq]; omega)))).trans ?_ | refine (heap_put_ne _ _ (by (first | omega | (simp only [World.size_alloc, World.putObj_size, ne_eq]; omega)))).trans ?_)); (first | with_reducible assumption | exact heap_alloc_same _ _ | exact World.putObj_heap_same (by (first | omega | (simp only [World.size_alloc, World.putObj_size, ne_eq]; omega)))))); exact rfl; conv => enter [6, 3]; whnf)
            | (apply wr_cmp; exact rfl; exact rfl; exact rfl; (first | exact cmp_lt_t (by omega) | exact cmp_lt_f (by omega) | exact cmp_eq_t (by omega) | exact cmp_eq_f (by omega) | exact cmp_ne_t (by omega) | exact cmp_ne_f (by omega) | exact cmp_le_t (by omega) | exact cmp_le_f (by omega) | exact cmp_gt_t (by omega) | exact cmp_gt_f (by omega) | exact cmp_ge_t (by omega) | exact cmp_ge_f (by omega) | exact cmp_lt _ _ | exact cmp_le _ _ | exact cmp_gt _ _ | exact cmp_ge _ _ | exact cmp_eq _ _ | exact cmp_ne _ _))
            | (apply wr_pick (t := true); exact rfl; exact rfl; with_reducible (conv => enter [6, 3]; whnf))
            | (apply wr_pick (t := false); exact rfl; exact rfl; with_reducible (conv => enter [6, 3]; whnf))
            | (apply wr_add; exact rfl; exact rfl; exact rfl; (first | exact w_i64 (by omega) | exact w_u64 (by omega) | exact w_u8 (by omega) | exact w_u16 (by omega) | exact w_i32 (by omega) | exact w_u32 (by omega) | with_reducible assumption | rfl))
            | (apply wr_sub; exact rfl; exact rfl; exact rfl; (first | exact w_i64 (by omega) | exact w_u64 (by omega) | exact w_u8 (by omega) | exact w_u16 (by omega) | exact w_i32 (by omega) | exact w_u32 (by omega) | with_reducible assumption | rfl))
            | (apply wr_mul; exact rfl; exact rfl; exact rfl; (first | exact w_i64 (by omega) | exact w_u64 (by omega) | exact w_u8 (by omega) | exact w_u16 (by omega) | exact w_i32 (by omega) | exact w_u32 (by omega) | with_reducible assumption | rfl))
            | (apply wr_conv; exact rfl; exact rfl; (first | exact w_i64 (by omega) | exact w_u64 (by omega) | exact w_u8 (by omega) | exact w_u16 (by omega) | exact w_i32 (by omega) | exact w_u32 (by omega) | with_reducible assumption | rfl))
            | (apply wr_not; exact rfl; exact rfl)
            | (apply wr_extract; exact rfl; exact rfl; exact rfl; with_reducible (conv => enter [6, 3]; whnf))
            | (apply wr_len_str; exact rfl; exact rfl)
            | (apply wr_len_slice; exact rfl; exact rfl)
            | (apply wr_store; exact rfl; exact rfl; exact rfl; (first | exact rfl | with_reducible assumption); (first | with_reducible assumption | exact heap_alloc_same _ _ | ((repeat (first | refine (heap_alloc_ne _ _ (by (first | omega | (simp only [World.size_alloc, World.putObj_size, ne_eq]; omega)))).trans ?_ | refine (heap_put_ne _ _ (by (first | omega | (simp only [World.size_alloc, World.putObj_size, ne_eq]; omega)))).trans ?_)); (first | with_reducible assumption | exact heap_alloc_same _ _ | exact World.putObj_heap_same (by (first | omega | (simp only [World.size_alloc, World.putObj_size, ne_eq]; omega)))))); exact rfl)
            | (apply wr_box; exact rfl; exact rfl)
            | (apply wr_alloc; exact rfl)
            | (apply wr_cat; exact rfl; exact rfl; exact rfl; (first | omega | (simp only [List.length_append]; omega)))
            | (apply wr_streqc; exact rfl; exact rfl; exact rfl; (first | exact decide_eq_true (by with_reducible assumption) | exact decide_eq_false (by with_reducible assumption) | exact decide_eq_true rfl | exact rfl))
            | (apply wr_strnec; exact rfl; exact rfl; exact rfl; (first | exact decide_eq_true (by with_reducible assumption) | exact decide_eq_false (by with_reducible assumption) | exact decide_eq_true rfl | exact rfl); with_reducible (conv => enter [6, 3]; whnf))
            | (apply wr_bits; exact rfl; (focus (simp; done)); exact rfl; exact rfl; assumption)
            | (apply wr_eqnil_t; exact rfl; exact rfl)
            | (apply wr_eqnil_f; exact rfl; exact rfl)
            | (apply wr_nenil_f; exact rfl; exact rfl)
            | (apply wr_nenil_t; exact rfl; exact rfl)
            | (apply wc_true; exact rfl)
            | (apply wc_false; exact rfl)
            | apply wc_skip
            | apply wc_block
            | (apply wc_exit; try simp only [thenE, inBlockE, bodyQ, ↓reduceIte, Nat.reduceEqDiff])
            | (apply wc_ret; try simp only [thenE, inBlockE, bodyQ])
            | (apply wr_nil; try simp only [thenE, inBlockE, bodyQ])
            | (apply wr_skip; exact rfl))
      refine wr_rem (c := kind') rfl rfl rfl (by decide) hkind'.symm ?_
      by_cases hk0 : kind' = 0
      · (repeat (first
      | (apply wr_move; exact rfl; with_reducible (conv => enter [6, 3]; whnf))
      | (apply wr_assign; exact rfl; with_reducible (conv => enter [6, 3]; whnf))
      | apply wr_end
      | apply wc_seq
      | apply wc_region
      | (apply wr_fieldAddr; exact rfl; exact rfl)
      | (apply wr_load; exact rfl; exact rfl; exact rfl; (first | with_reducible assumption | exact heap_alloc_same _ _ | ((repeat (first | refine (heap_alloc_ne _ _ (by (first | omega | (simp only [World.size_alloc, World.putObj_size, ne_eq]; omega)))).trans ?_ | refine (heap_put_ne _ _ (by (first | omega | (simp only [World.size_alloc, World.putObj_size, ne_eq]; omega)))).trans ?_)); (first | with_reducible assumption | exact heap_alloc_same _ _ | exact World.putObj_heap_same (by (first | omega | (simp only [World.size_alloc, World.putObj_size, ne_eq]; omega)))))); exact rfl; conv => enter [6, 3]; whnf)
      | (apply wr_cmp; exact rfl; exact rfl; exact rfl; (first | exact cmp_lt_t (by omega) | exact cmp_lt_f (by omega) | exact cmp_eq_t (by omega) | exact cmp_eq_f (by omega) | exact cmp_ne_t (by omega) | exact cmp_ne_f (by omega) | exact cmp_le_t (by omega) | exact cmp_le_f (by omega) | exact cmp_gt_t (by omega) | exact cmp_gt_f (by omega) | exact cmp_ge_t (by omega) | exact cmp_ge_f (by omega) | exact cmp_lt _ _ | exact cmp_le _ _ | exact cmp_gt _ _ | exact cmp_ge _ _ | exact cmp_eq _ _ | exact cmp_ne _ _))
      | (apply wr_pick (t := true); exact rfl; exact rfl; with_reducible (conv => enter [6, 3]; whnf))
      | (apply wr_pick (t := false); exact rfl; exact rfl; with_reducible (conv => enter [6, 3]; whnf))
      | (apply wr_add; exact rfl; exact rfl; exact rfl; (first | exact w_i64 (by omega) | exact w_u64 (by omega) | exact w_u8 (by omega) | exact w_u16 (by omega) | exact w_i32 (by omega) | exact w_u32 (by omega) | with_reducible assumption | rfl))
      | (apply wr_sub; exact rfl; exact rfl; exact rfl; (first | exact w_i64 (by omega) | exact w_u64 (by omega) | exact w_u8 (by omega) | exact w_u16 (by omega) | exact w_i32 (by omega) | exact w_u32 (by omega) | with_reducible assumption | rfl))
      | (apply wr_mul; exact rfl; exact rfl; exact rfl; (first | exact w_i64 (by omega) | exact w_u64 (by omega) | exact w_u8 (by omega) | exact w_u16 (by omega) | exact w_i32 (by omega) | exact w_u32 (by omega) | with_reducible assumption | rfl))
      | (apply wr_conv; exact rfl; exact rfl; (first | exact w_i64 (by omega) | exact w_u64 (by omega) | exact w_u8 (by omega) | exact w_u16 (by omega) | exact w_i32 (by omega) | exact w_u32 (by omega) | with_reducible assumption | rfl))
      | (apply wr_not; exact rfl; exact rfl)
      | (apply wr_extract; exact rfl; exact rfl; exact rfl; with_reducible (conv => enter [6, 3]; whnf))
      | (apply wr_len_str; exact rfl; exact rfl)
      | (apply wr_len_slice; exact rfl; exact rfl)
      | (apply wr_store; exact rfl; exact rfl; exact rfl; (first | exact rfl | with_reducible assumption); (first | with_reducible assumption | exact heap_alloc_same _ _ | ((repeat (first | refine (heap_alloc_ne _ _ (by (first | omega | (simp only [World.size_alloc, World.putObj_size, ne_eq]; omega)))).trans ?_ | refine (heap_put_ne _ _ (by (first | omega | (simp only [World.size_alloc, World.putObj_size, ne_eq]; omega)))).trans ?_)); (first | with_reducible assumption | exact heap_alloc_same _ _ | exact World.putObj_heap_same (by (first | omega | (simp only [World.size_alloc, World.putObj_size, ne_eq]; omega)))))); exact rfl)
      | (apply wr_box; exact rfl; exact rfl)
      | (apply wr_alloc; exact rfl)
      | (apply wr_cat; exact rfl; exact rfl; exact rfl; (first | omega | (simp only [List.length_append]; omega)))
      | (apply wr_streqc; exact rfl; exact rfl; exact rfl; (first | exact decide_eq_true (by with_reducible assumption) | exact decide_eq_false (by with_reducible assumption) | exact decide_eq_true rfl | exact rfl))
      | (apply wr_strnec; exact rfl; exact rfl; exact rfl; (first | exact decide_eq_true (by with_reducible assumption) | exact decide_eq_false (by with_reducible assumption) | exact decide_eq_true rfl | exact rfl); with_reducible (conv => enter [6, 3]; whnf))
      | (apply wr_bits; exact rfl; (focus (simp; done)); exact rfl; exact rfl; assumption)
      | (apply wr_eqnil_t; exact rfl; exact rfl)
      | (apply wr_eqnil_f; exact rfl; exact rfl)
      | (apply wr_nenil_f; exact rfl; exact rfl)
      | (apply wr_nenil_t; exact rfl; exact rfl)
      | (apply wc_true; exact rfl)
      | (apply wc_false; exact rfl)
      | apply wc_skip
      | apply wc_block
      | (apply wc_exit; try simp only [thenE, inBlockE, bodyQ, ↓reduceIte, Nat.reduceEqDiff])
      | (apply wc_ret; try simp only [thenE, inBlockE, bodyQ])
      | (apply wr_nil; try simp only [thenE, inBlockE, bodyQ])
      | (apply wr_skip; exact rfl)))
        exact ⟨by trivial, ⟨num', kind', n, s⟩, by simp only; omega, by simp only; omega, hn, rfl, ⟨rfl, rfl, trivial⟩, by first | with_reducible assumption | exact heap_alloc_same _ _ | ((repeat (first | refine (heap_alloc_ne _ _ (by (first | omega | (simp only [World.size_alloc, World.putObj_size, ne_eq]; omega)))).trans ?_ | refine (heap_put_ne _ _ (by (first | omega | (simp only [World.size_alloc, World.putObj_size, ne_eq]; omega)))).trans ?_)); (first | with_reducible assumption | exact heap_alloc_same _ _ | exact World.putObj_heap_same (by (first | omega | (simp only [World.size_alloc, World.putObj_size, ne_eq]; omega))))), (hkk1.put _ (fun h => by omega)).put _ (fun h => by omega)⟩
      · (repeat (first
      | (apply wr_move; exact rfl; with_reducible (conv => enter [6, 3]; whnf))
      | (apply wr_assign; exact rfl; with_reducible (conv => enter [6, 3]; whnf))
      | apply wr_end
      | apply wc_seq
      | apply wc_region
      | (apply wr_fieldAddr; exact rfl; exact rfl)
      | (apply wr_load; exact rfl; exact rfl; exact rfl; (first | with_reducible assumption | exact heap_alloc_same _ _ | ((repeat (first | refine (heap_alloc_ne _ _ (by (first | omega | (simp only [World.size_alloc, World.putObj_size, ne_eq]; omega)))).trans ?_ | refine (heap_put_ne _ _ (by (first | omega | (simp only [World.size_alloc, World.putObj_size, ne_eq]; omega)))).trans ?_)); (first | with_reducible assumption | exact heap_alloc_same _ _ | exact World.putObj_heap_same (by (first | omega | (simp only [World.size_alloc, World.putObj_size, ne_eq]; omega)))))); exact rfl; conv => enter [6, 3]; whnf)
      | (apply wr_cmp; exact rfl; exact rfl; exact rfl; (first | exact cmp_lt_t (by omega) | exact cmp_lt_f (by omega) | exact cmp_eq_t (by omega) | exact cmp_eq_f (by omega) | exact cmp_ne_t (by omega) | exact cmp_ne_f (by omega) | exact cmp_le_t (by omega) | exact cmp_le_f (by omega) | exact cmp_gt_t (by omega) | exact cmp_gt_f (by omega) | exact cmp_ge_t (by omega) | exact cmp_ge_f (by omega) | exact cmp_lt _ _ | exact cmp_le _ _ | exact cmp_gt _ _ | exact cmp_ge _ _ | exact cmp_eq _ _ | exact cmp_ne _ _))
      | (apply wr_pick (t := true); exact rfl; exact rfl; with_reducible (conv => enter [6, 3]; whnf))
      | (apply wr_pick (t := false); exact rfl; exact rfl; with_reducible (conv => enter [6, 3]; whnf))
      | (apply wr_add; exact rfl; exact rfl; exact rfl; (first | exact w_i64 (by omega) | exact w_u64 (by omega) | exact w_u8 (by omega) | exact w_u16 (by omega) | exact w_i32 (by omega) | exact w_u32 (by omega) | with_reducible assumption | rfl))
      | (apply wr_sub; exact rfl; exact rfl; exact rfl; (first | exact w_i64 (by omega) | exact w_u64 (by omega) | exact w_u8 (by omega) | exact w_u16 (by omega) | exact w_i32 (by omega) | exact w_u32 (by omega) | with_reducible assumption | rfl))
      | (apply wr_mul; exact rfl; exact rfl; exact rfl; (first | exact w_i64 (by omega) | exact w_u64 (by omega) | exact w_u8 (by omega) | exact w_u16 (by omega) | exact w_i32 (by omega) | exact w_u32 (by omega) | with_reducible assumption | rfl))
      | (apply wr_conv; exact rfl; exact rfl; (first | exact w_i64 (by omega) | exact w_u64 (by omega) | exact w_u8 (by omega) | exact w_u16 (by omega) | exact w_i32 (by omega) | exact w_u32 (by omega) | with_reducible assumption | rfl))
      | (apply wr_not; exact rfl; exact rfl)
      | (apply wr_extract; exact rfl; exact rfl; exact rfl; with_reducible (conv => enter [6, 3]; whnf))
      | (apply wr_len_str; exact rfl; exact rfl)
      | (apply wr_len_slice; exact rfl; exact rfl)
      | (apply wr_store; exact rfl; exact rfl; exact rfl; (first | exact rfl | with_reducible assumption); (first | with_reducible assumption | exact heap_alloc_same _ _ | ((repeat (first | refine (heap_alloc_ne _ _ (by (first | omega | (simp only [World.size_alloc, World.putObj_size, ne_eq]; omega)))).trans ?_ | refine (heap_put_ne _ _ (by (first | omega | (simp only [World.size_alloc, World.putObj_size, ne_eq]; omega)))).trans ?_)); (first | with_reducible assumption | exact heap_alloc_same _ _ | exact World.putObj_heap_same (by (first | omega | (simp only [World.size_alloc, World.putObj_size, ne_eq]; omega)))))); exact rfl)
      | (apply wr_box; exact rfl; exact rfl)
      | (apply wr_alloc; exact rfl)
      | (apply wr_cat; exact rfl; exact rfl; exact rfl; (first | omega | (simp only [List.length_append]; omega)))
      | (apply wr_streqc; exact rfl; exact rfl; exact rfl; (first | exact decide_eq_true (by with_reducible assumption) | exact decide_eq_false (by with_reducible assumption) | exact decide_eq_true rfl | exact rfl))
      | (apply wr_strnec; exact rfl; exact rfl; exact rfl; (first | exact decide_eq_true (by with_reducible assumption) | exact decide_eq_false (by with_reducible assumption) | exact decide_eq_true rfl | exact rfl); with_reducible (conv => enter [6, 3]; whnf))
      | (apply wr_bits; exact rfl; (focus (simp; done)); exact rfl; exact rfl; assumption)
      | (apply wr_eqnil_t; exact rfl; exact rfl)
      | (apply wr_eqnil_f; exact rfl; exact rfl)
      | (apply wr_nenil_f; exact rfl; exact rfl)
      | (apply wr_nenil_t; exact rfl; exact rfl)
      | (apply wc_true; exact rfl)
      | (apply wc_false; exact rfl)
      | apply wc_skip
      | apply wc_block
      | (apply wc_exit; try simp only [thenE, inBlockE, bodyQ, ↓reduceIte, Nat.reduceEqDiff])
      | (apply wc_ret; try simp only [thenE, inBlockE, bodyQ])
      | (apply wr_nil; try simp only [thenE, inBlockE, bodyQ])
      | (apply wr_skip; exact rfl)))
        refine wr_remN (n := n) (m := 4) rfl rfl rfl (by decide) ?_
        by_cases hn4 : n % 4 = 0
        · (repeat (first
      | (apply wr_move; exact rfl; with_reducible (conv => enter [6, 3]; whnf))
      | (apply wr_assign; exact rfl; with_reducible (conv => enter [6, 3]; whnf))
      | apply wr_end
      | apply wc_seq
      | apply wc_region
      | (apply wr_fieldAddr; exact rfl; exact rfl)
      | (apply wr_load; exact rfl; exact rfl; exact rfl; (first | with_reducible assumption | exact heap_alloc_same _ _ | ((repeat (first | refine (heap_alloc_ne _ _ (by (first | omega | (simp only [World.size_alloc, World.putObj_size, ne_eq]; omega)))).trans ?_ | refine (heap_put_ne _ _ (by (first | omega | (simp only [World.size_alloc, World.putObj_size, ne_eq]; omega)))).trans ?_)); (first | with_reducible assumption | exact heap_alloc_same _ _ | exact World.putObj_heap_same (by (first | omega | (simp only [World.size_alloc, World.putObj_size, ne_eq]; omega)))))); exact rfl; conv => enter [6, 3]; whnf)
      | (apply wr_cmp; exact rfl; exact rfl; exact rfl; (first | exact cmp_lt_t (by omega) | exact cmp_lt_f (by omega) | exact cmp_eq_t (by omega) | exact cmp_eq_f (by omega) | exact cmp_ne_t (by omega) | exact cmp_ne_f (by omega) | exact cmp_le_t (by omega) | exact cmp_le_f (by omega) | exact cmp_gt_t (by omega) | exact cmp_gt_f (by omega) | exact cmp_ge_t (by omega) | exact cmp_ge_f (by omega) | exact cmp_lt _ _ | exact cmp_le _ _ | exact cmp_gt _ _ | exact cmp_ge _ _ | exact cmp_eq _ _ | exact cmp_ne _ _))
      | (apply wr_pick (t := true); exact rfl; exact rfl; with_reducible (conv => enter [6, 3]; whnf))
      | (apply wr_pick (t := false); exact rfl; exact rfl; with_reducible (conv => enter [6, 3]; whnf))
      | (apply wr_add; exact rfl; exact rfl; exact rfl; (first | exact w_i64 (by omega) | exact w_u64 (by omega) | exact w_u8 (by omega) | exact w_u16 (by omega) | exact w_i32 (by omega) | exact w_u32 (by omega) | with_reducible assumption | rfl))
      | (apply wr_sub; exact rfl; exact rfl; exact rfl; (first | exact w_i64 (by omega) | exact w_u64 (by omega) | exact w_u8 (by omega) | exact w_u16 (by omega) | exact w_i32 (by omega) | exact w_u32 (by omega) | with_reducible assumption | rfl))
      | (apply wr_mul; exact rfl; exact rfl; exact rfl; (first | exact w_i64 (by omega) | exact w_u64 (by omega) | exact w_u8 (by omega) | exact w_u16 (by omega) | exact w_i32 (by omega) | exact w_u32 (by omega) | with_reducible assumption | rfl))
      | (apply wr_conv; exact rfl; exact rfl; (first | exact w_i64 (by omega) | exact w_u64 (by omega) | exact w_u8 (by omega) | exact w_u16 (by omega) | exact w_i32 (by omega) | exact w_u32 (by omega) | with_reducible assumption | rfl))
      | (apply wr_not; exact rfl; exact rfl)
      | (apply wr_extract; exact rfl; exact rfl; exact rfl; with_reducible (conv => enter [6, 3]; whnf))
      | (apply wr_len_str; exact rfl; exact rfl)
      | (apply wr_len_slice; exact rfl; exact rfl)
      | (apply wr_store; exact rfl; exact rfl; exact rfl; (first | exact rfl | with_reducible assumption); (first | with_reducible assumption | exact heap_alloc_same _ _ | ((repeat (first | refine (heap_alloc_ne _ _ (by (first | omega | (simp only [World.size_alloc, World.putObj_size, ne_eq]; omega)))).trans ?_ | refine (heap_put_ne _ _ (by (first | omega | (simp only [World.size_alloc, World.putObj_size, ne_eq]; omega)))).trans ?_)); (first | with_reducible assumption | exact heap_alloc_same _ _ | exact World.putObj_heap_same (by (first | omega | (simp only [World.size_alloc, World.putObj_size, ne_eq]; omega)))))); exact rfl)
      | (apply wr_box; exact rfl; exact rfl)
      | (apply wr_alloc; exact rfl)
      | (apply wr_cat; exact rfl; exact rfl; exact rfl; (first | omega | (simp only [List.length_append]; omega)))
      | (apply wr_streqc; exact rfl; exact rfl; exact rfl; (first | exact decide_eq_true (by with_reducible assumption) | exact decide_eq_false (by with_reducible assumption) | exact decide_eq_true rfl | exact rfl))
      | (apply wr_strnec; exact rfl; exact rfl; exact rfl; (first | exact decide_eq_true (by with_reducible assumption) | exact decide_eq_false (by with_reducible assumption) | exact decide_eq_true rfl | exact rfl); with_reducible (conv => enter [6, 3]; whnf))
      | (apply wr_bits; exact rfl; (focus (simp; done)); exact rfl; exact rfl; assumption)
      | (apply wr_eqnil_t; exact rfl; exact rfl)
      | (apply wr_eqnil_f; exact rfl; exact rfl)
      | (apply wr_nenil_f; exact rfl; exact rfl)
      | (apply wr_nenil_t; exact rfl; exact rfl)
      | (apply wc_true; exact rfl)
      | (apply wc_false; exact rfl)
      | apply wc_skip
      | apply wc_block
      | (apply wc_exit; try simp only [thenE, inBlockE, bodyQ, ↓reduceIte, Nat.reduceEqDiff])
      | (apply wc_ret; try simp only [thenE, inBlockE, bodyQ])
      | (apply wr_nil; try simp only [thenE, inBlockE, bodyQ])
      | (apply wr_skip; exact rfl)))
          exact ⟨by trivial, ⟨num', kind', n, s⟩, by simp only; omega, by simp only; omega, hn, rfl, ⟨rfl, rfl, trivial⟩, by first | with_reducible assumption | exact heap_alloc_same _ _ | ((repeat (first | refine (heap_alloc_ne _ _ (by (first | omega | (simp only [World.size_alloc, World.putObj_size, ne_eq]; omega)))).trans ?_ | refine (heap_put_ne _ _ (by (first | omega | (simp only [World.size_alloc, World.putObj_size, ne_eq]; omega)))).trans ?_)); (first | with_reducible assumption | exact heap_alloc_same _ _ | exact World.putObj_heap_same (by (first | omega | (simp only [World.size_alloc, World.putObj_size, ne_eq]; omega))))), (hkk1.put _ (fun h => by omega)).put _ (fun h => by omega)⟩
        · have hn4' : ((n % 4 : Nat) : Int) > 0 := by omega
          repeat (first
                | (apply wr_move; exact rfl; with_reducible (conv => enter [6, 3]; whnf))
                | (apply wr_assign; exact rfl; with_reducible (conv => enter [6, 3]; whnf))
                | apply wr_end
                | apply wc_seq
                | apply wc_region
                | (apply wr_fieldAddr; exact rfl; exact rfl)
                | (apply wr_load; exact rfl; exact rfl; exact rfl; (first | with_reducible assumption | exact heap_alloc_same _ _ | ((repeat (first | refine (heap_alloc_ne _ _ (by (first | omega | (simp only [World.size_alloc, World.putObj_size, ne_eq]; omega)))).trans ?_ | refine (heap_put_ne _ _ (by (first | omega | (simp only [World.size_alloc, World.putObj_size, ne_eq]; omega)))).trans ?_)); (first | with_reducible assumption | exact heap_alloc_same _ _ | exact World.putObj_heap_same (by (first | omega | (simp only [World.size_alloc, World.putObj_size, ne_eq]; omega)))))); exact rfl; conv => enter [6, 3]; whnf)
                | (apply wr_cmp; exact rfl; exact rfl; exact rfl; (first | exact cmp_lt_t (by omega) | exact cmp_lt_f (by omega) | exact cmp_eq_t (by omega) | exact cmp_eq_f (by omega) | exact cmp_ne_t (by omega) | exact cmp_ne_f (by omega) | exact cmp_le_t (by omega) | exact cmp_le_f (by omega) | exact cmp_gt_t (by omega) | exact cmp_gt_f (by omega) | exact cmp_ge_t (by omega) | exact cmp_ge_f (by omega) | exact cmp_lt _ _ | exact cmp_le _ _ | exact cmp_gt _ _ | exact cmp_ge _ _ | exact cmp_eq _ _ | exact cmp_ne _ _))
                | (apply wr_pick (t := true); exact rfl; exact rfl; with_reducible (conv => enter [6, 3]; whnf))
                | (apply wr_pick (t := false); exact rfl; exact rfl; with_reducible (conv => enter [6, 3]; whnf))
                | (apply wr_add; exact rfl; exact rfl; exact rfl; (first | exact w_i64 (by omega) | exact w_u64 (by omega) | exact w_u8 (by omega) | exact w_u16 (by omega) | exact w_i32 (by omega) | exact w_u32 (by omega) | with_reducible assumption | rfl))
                | (apply wr_sub; exact rfl; exact rfl; exact rfl; (first | exact w_i64 (by omega) | exact w_u64 (by omega) | exact w_u8 (by omega) | exact w_u16 (by omega) | exact w_i32 (by omega) | exact w_u32 (by omega) | with_reducible assumption | rfl))
                | (apply wr_mul; exact rfl; exact rfl; exact rfl; (first | exact w_i64 (by omega) | exact w_u64 (by omega) | exact w_u8 (by omega) | exact w_u16 (by omega) | exact w_i32 (by omega) | exact w_u32 (by omega) | with_reducible assumption | rfl))
                | (apply wr_conv; exact rfl; exact rfl; (first | exact w_i64 (by omega) | exact w_u64 (by omega) | exact w_u8 (by omega) | exact w_u16 (by omega) | exact w_i32 (by omega) | exact w_u32 (by omega) | with_reducible assumption | rfl))
                | (apply wr_not; exact rfl; exact rfl)
                | (apply wr_extract; exact rfl; exact rfl; exact rfl; with_reducible (conv => enter [6, 3]; whnf))
                | (apply wr_len_str; exact rfl; exact rfl)
                | (apply wr_len_slice; exact rfl; exact rfl)
                | (apply wr_store; exact rfl; exact rfl; exact rfl; (first | exact rfl | with_reducible assumption); (first | with_reducible assumption | exact heap_alloc_same _ _ | ((repeat (first | refine (heap_alloc_ne _ _ (by (first | omega | (simp only [World.size_alloc, World.putObj_size, ne_eq]; omega)))).trans ?_ | refine (heap_put_ne _ _ (by (first | omega | (simp only [World.size_alloc, World.putObj_size, ne_eq]; omega)))).trans ?_)); (first | with_reducible assumption | exact heap_alloc_same _ _ | exact World.putObj_heap_same (by (first | omega | (simp only [World.size_alloc, World.putObj_size, ne_eq]; omega)))))); exact rfl)
                | (apply wr_box; exact rfl; exact rfl)
                | (apply wr_alloc; exact rfl)
                | (apply wr_cat; exact rfl; exact rfl; exact rfl; (first | omega | (simp only [List.length_append]; omega)))
                | (apply wr_streqc; exact rfl; exact rfl; exact rfl; (first | exact decide_eq_true (by with_reducible assumption) | exact decide_eq_false (by with_reducible assumption) | exact decide_eq_true rfl | exact rfl))
                | (apply wr_strnec; exact rfl; exact rfl; exact rfl; (first | exact decide_eq_true (by with_reducible assumption) | exact decide_eq_false (by with_reducible assumption) | exact decide_eq_true rfl | exact rfl); with_reducible (conv => enter [6, 3]; whnf))
                | (apply wr_bits; exact rfl; (focus (simp; done)); exact rfl; exact rfl; assumption)
                | (apply wr_eqnil_t; exact rfl; exact rfl)
                | (apply wr_eqnil_f; exact rfl; exact rfl)
                | (apply wr_nenil_f; exact rfl; exact rfl)
                | (apply wr_nenil_t; exact rfl; exact rfl)
                | (apply wc_true; exact rfl)
                | (apply wc_false; exact rfl)
                | apply wc_skip
                | apply wc_block
                | (apply wc_exit; try simp only [thenE, inBlockE, bodyQ, ↓reduceIte, Nat.reduceEqDiff])
                | (apply wc_ret; try simp only [thenE, inBlockE, bodyQ])
                | (apply wr_nil; try simp only [thenE, inBlockE, bodyQ])
                | (apply wr_skip; exact rfl))
          exact ⟨by trivial, ⟨num', kind', 0, s⟩, by simp only; omega, by simp only; omega, by simp, rfl, ⟨rfl, rfl, trivial⟩, by first | with_reducible assumption | exact heap_alloc_same _ _ | ((repeat (first | refine (heap_alloc_ne _ _ (by (first | omega | (simp only [World.size_alloc, World.putObj_size, ne_eq]; omega)))).trans ?_ | refine (heap_put_ne _ _ (by (first | omega | (simp only [World.size_alloc, World.putObj_size, ne_eq]; omega)))).trans ?_)); (first | with_reducible assumption | exact heap_alloc_same _ _ | exact World.putObj_heap_same (by (first | omega | (simp only [World.size_alloc, World.putObj_size, ne_eq]; omega))))), ((hkk1.put _ (fun h => by omega)).put _ (fun h => by omega)).put _ (fun h => by omega)⟩
  · rintro ds f w2 ⟨rfl, ⟨num', kind', n', s'⟩, hnum', hkind', hn', hs', hsl, hf2, hk2⟩
    simp only at hnum' hkind' hn' hs' hf2
    subst hs'
    refine wc_keep _ hsl ?_
    intro f0
    clear hsl hf1 hkk1 f
    have hx' : (⟨num', kind', n', s'⟩ : WF).ok := ⟨hnum', hkind', hn', hs⟩
    repeat (first
          | (apply wr_move; exact rfl; with_reducible (conv => enter [6, 3]; whnf))
          | (apply wr_assign; exact rfl; with_reducible (conv => enter [6, 3]; whnf))
          | apply wr_end
          | apply wc_seq
          | apply wc_region
          | (apply wr_fieldAddr; exact rfl; exact rfl)
          | (apply wr_load; exact rfl; exact rfl; exact rfl; (first | with_reducible assumption | exact heap_alloc_same _ _ | ((repeat (first | refine (heap_alloc_ne _ _ (by (first | omega | (simp only [World.size_alloc, World.putObj_size, ne_eq]; omega)))).trans ?_ | refine (heap_put_ne _ _ (by (first | omega | (simp only [World.size_alloc, World.putObj_size, ne_eq]; omega)))).trans ?_)); (first | with_reducible assumption | exact heap_alloc_same _ _ | exact World.putObj_heap_same (by (first | omega | (simp only [World.size_alloc, World.putObj_size, ne_eq]; omega)))))); exact rfl; conv => enter [6, 3]; whnf)
          | (apply wr_cmp; exact rfl; exact rfl; exact rfl; (first | exact cmp_lt_t (by omega) | exact cmp_lt_f (by omega) | exact cmp_eq_t (by omega) | exact cmp_eq_f (by omega) | exact cmp_ne_t (by omega) | exact cmp_ne_f (by omega) | exact cmp_le_t (by omega) | exact cmp_le_f (by omega) | exact cmp_gt_t (by omega) | exact cmp_gt_f (by omega) | exact cmp_ge_t (by omega) | exact cmp_ge_f (by omega) | exact cmp_lt _ _ | exact cmp_le _ _ | exact cmp_gt _ _ | exact cmp_ge _ _ | exact cmp_eq _ _ | exact cmp_ne _ _))
          | (apply wr_pick (t := true); exact rfl; exact rfl; with_reducible (conv => enter [6, 3]; whnf))
          | (apply wr_pick (t := false); exact rfl; exact rfl; with_reducible (conv => enter [6, 3]; whnf))
          | (apply wr_add; exact rfl; exact rfl; exact rfl; (first | exact w_i64 (by omega) | exact w_u64 (by omega) | exact w_u8 (by omega) | exact w_u16 (by omega) | exact w_i32 (by omega) | exact w_u32 (by omega) | with_reducible assumption | rfl))
          | (apply wr_sub; exact rfl; exact rfl; exact rfl; (first | exact w_i64 (by omega) | exact w_u64 (by omega) | exact w_u8 (by omega) | exact w_u16 (by omega) | exact w_i32 (by omega) | exact w_u32 (by omega) | with_reducible assumption | rfl))
          | (apply wr_mul; exact rfl; exact rfl; exact rfl; (first | exact w_i64 (by omega) | exact w_u64 (by omega) | exact w_u8 (by omega) | exact w_u16 (by omega) | exact w_i32 (by omega) | exact w_u32 (by omega) | with_reducible assumption | rfl))
          | (apply wr_conv; exact rfl; exact rfl; (first | exact w_i64 (by omega) | exact w_u64 (by omega) | exact w_u8 (by omega) | exact w_u16 (by omega) | exact w_i32 (by omega) | exact w_u32 (by omega) | with_reducible assumption | rfl))
          | (apply wr_not; exact rfl; exact rfl)
          | (apply wr_extract; exact rfl; exact rfl; exact rfl; with_reducible (conv => enter [6, 3]; whnf))
          | (apply wr_len_str; exact rfl; exact rfl)
          | (apply wr_len_slice; exact rfl; exact rfl)
          | (apply wr_store; exact rfl; exact rfl; exact rfl; (first | exact rfl | with_reducible assumption); (first | with_reducible assumption | exact heap_alloc_same _ _ | ((repeat (first | refine (heap_alloc_ne _ _ (by (first | omega | (simp only [World.size_alloc, World.putObj_size, ne_eq]; omega)))).trans ?_ | refine (heap_put_ne _ _ (by (first | omega | (simp only [World.size_alloc, World.putObj_size, ne_eq]; omega)))).trans ?_)); (first | with_reducible assumption | exact heap_alloc_same _ _ | exact World.putObj_heap_same (by (first | omega | (simp only [World.size_alloc, World.putObj_size, ne_eq]; omega)))))); exact rfl)
          | (apply wr_box; exact rfl; exact rfl)
          | (apply wr_alloc; exact rfl)
          | (apply wr_cat; exact rfl; exact rfl; exact rfl; (first | omega | (simp only [List.length_append]; omega)))
          | (apply wr_streqc; exact rfl; exact rfl; exact rfl; (first | exact decide_eq_true (by with_reducible assumption) | exact decide_eq_false (by with_reducible assumption) | exact decide_eq_true rfl | exact rfl))
          | (apply wr_strnec; exact rfl; exact rfl; exact rfl; (first | exact decide_eq_true (by with_reducible assumption) | exact decide_eq_false (by with_reducible assumption) | exact decide_eq_true rfl | exact rfl); with_reducible (conv => enter [6, 3]; whnf))
          | (apply wr_bits; exact rfl; (focus (simp; done)); exact rfl; exact rfl; assumption)
          | (apply wr_eqnil_t; exact rfl; exact rfl)
          | (apply wr_eqnil_f; exact rfl; exact rfl)
          | (apply wr_nenil_f; exact rfl; exact rfl)
          | (apply wr_nenil_t; exact rfl; exact rfl)
          | (apply wc_true; exact rfl)
          | (apply wc_false; exact rfl)
          | apply wc_skip
          | apply wc_block
          | (apply wc_exit; try simp only [thenE, inBlockE, bodyQ, ↓reduceIte, Nat.reduceEqDiff])
          | (apply wc_ret; try simp only [thenE, inBlockE, bodyQ])
          | (apply wr_nil; try simp only [thenE, inBlockE, bodyQ])
          | (apply wr_skip; exact rfl))
    refine wr_loadAll (cs := [.int .i64 num', .int .i64 kind', .int .u64 (n' : Int), S s']) rfl rfl rfl hf2 rfl ?_
    refine wr_call (vs := [.agg #[.int .i64 num', .int .i64 kind', .int .u64 (n' : Int), S s']]) rfl (put_ca ⟨num', kind', n', s'⟩ hx' _) rfl ?_
    rintro v w3 ⟨rfl, hk3⟩
    have hf3 := hk3.heap hf2 (fun h => h)
    obtain ⟨pa, pb, hp⟩ : ∃ pa pb, putV (putF ⟨num', kind', n', s'⟩) = .tuple #[S pa, .bool pb] := by
      obtain ⟨b, hb⟩ := putV_get0 (putF ⟨num', kind', n', s'⟩)
      exact ⟨_, _, hb⟩
    rw [hp]
    repeat (first
          | (apply wr_move; exact rfl; with_reducible (conv => enter [6, 3]; whnf))
          | (apply wr_assign; exact rfl; with_reducible (conv => enter [6, 3]; whnf))
          | apply wr_end
          | apply wc_seq
          | apply wc_region
          | (apply wr_fieldAddr; exact rfl; exact rfl)
          | (apply wr_load; exact rfl; exact rfl; exact rfl; (first | with_reducible assumption | exact heap_alloc_same _ _ | ((repeat (first | refine (heap_alloc_ne _ _ (by (first | omega | (simp only [World.size_alloc, World.putObj_size, ne_eq]; omega)))).trans ?_ | refine (heap_put_ne _ _ (by (first | omega | (simp only [World.size_alloc, World.putObj_size, ne_eq]; omega)))).trans ?_)); (first | with_reducible assumption | exact heap_alloc_same _ _ | exact World.putObj_heap_same (by (first | omega | (simp only [World.size_alloc, World.putObj_size, ne_eq]; omega)))))); exact rfl; conv => enter [6, 3]; whnf)
          | (apply wr_cmp; exact rfl; exact rfl; exact rfl; (first | exact cmp_lt_t (by omega) | exact cmp_lt_f (by omega) | exact cmp_eq_t (by omega) | exact cmp_eq_f (by omega) | exact cmp_ne_t (by omega) | exact cmp_ne_f (by omega) | exact cmp_le_t (by omega) | exact cmp_le_f (by omega) | exact cmp_gt_t (by omega) | exact cmp_gt_f (by omega) | exact cmp_ge_t (by omega) | exact cmp_ge_f (by omega) | exact cmp_lt _ _ | exact cmp_le _ _ | exact cmp_gt _ _ | exact cmp_ge _ _ | exact cmp_eq _ _ | exact cmp_ne _ _))
          | (apply wr_pick (t := true); exact rfl; exact rfl; with_reducible (conv => enter [6, 3]; whnf))
          | (apply wr_pick (t := false); exact rfl; exact rfl; with_reducible (conv => enter [6, 3]; whnf))
          | (apply wr_add; exact rfl; exact rfl; exact rfl; (first | exact w_i64 (by omega) | exact w_u64 (by omega) | exact w_u8 (by omega) | exact w_u16 (by omega) | exact w_i32 (by omega) | exact w_u32 (by omega) | with_reducible assumption | rfl))
          | (apply wr_sub; exact rfl; exact rfl; exact rfl; (first | exact w_i64 (by omega) | exact w_u64 (by omega) | exact w_u8 (by omega) | exact w_u16 (by omega) | exact w_i32 (by omega) | exact w_u32 (by omega) | with_reducible assumption | rfl))
          | (apply wr_mul; exact rfl; exact rfl; exact rfl; (first | exact w_i64 (by omega) | exact w_u64 (by omega) | exact w_u8 (by omega) | exact w_u16 (by omega) | exact w_i32 (by omega) | exact w_u32 (by omega) | with_reducible assumption | rfl))
          | (apply wr_conv; exact rfl; exact rfl; (first | exact w_i64 (by omega) | exact w_u64 (by omega) | exact w_u8 (by omega) | exact w_u16 (by omega) | exact w_i32 (by omega) | exact w_u32 (by omega) | with_reducible assumption | rfl))
          | (apply wr_not; exact rfl; exact rfl)
          | (apply wr_extract; exact rfl; exact rfl; exact rfl; with_reducible (conv => enter [6, 3]; whnf))
          | (apply wr_len_str; exact rfl; exact rfl)
          | (apply wr_len_slice; exact rfl; exact rfl)
          | (apply wr_store; exact rfl; exact rfl; exact rfl; (first | exact rfl | with_reducible assumption); (first | with_reducible assumption | exact heap_alloc_same _ _ | ((repeat (first | refine (heap_alloc_ne _ _ (by (first | omega | (simp only [World.size_alloc, World.putObj_size, ne_eq]; omega)))).trans ?_ | refine (heap_put_ne _ _ (by (first | omega | (simp only [World.size_alloc, World.putObj_size, ne_eq]; omega)))).trans ?_)); (first | with_reducible assumption | exact heap_alloc_same _ _ | exact World.putObj_heap_same (by (first | omega | (simp only [World.size_alloc, World.putObj_size, ne_eq]; omega)))))); exact rfl)
          | (apply wr_box; exact rfl; exact rfl)
          | (apply wr_alloc; exact rfl)
          | (apply wr_cat; exact rfl; exact rfl; exact rfl; (first | omega | (simp only [List.length_append]; omega)))
          | (apply wr_streqc; exact rfl; exact rfl; exact rfl; (first | exact decide_eq_true (by with_reducible assumption) | exact decide_eq_false (by with_reducible assumption) | exact decide_eq_true rfl | exact rfl))
          | (apply wr_strnec; exact rfl; exact rfl; exact rfl; (first | exact decide_eq_true (by with_reducible assumption) | exact decide_eq_false (by with_reducible assumption) | exact decide_eq_true rfl | exact rfl); with_reducible (conv => enter [6, 3]; whnf))
          | (apply wr_bits; exact rfl; (focus (simp; done)); exact rfl; exact rfl; assumption)
          | (apply wr_eqnil_t; exact rfl; exact rfl)
          | (apply wr_eqnil_f; exact rfl; exact rfl)
          | (apply wr_nenil_f; exact rfl; exact rfl)
          | (apply wr_nenil_t; exact rfl; exact rfl)
          | (apply wc_true; exact rfl)
          | (apply wc_false; exact rfl)
          | apply wc_skip
          | apply wc_block
          | (apply wc_exit; try simp only [thenE, inBlockE, bodyQ, ↓reduceIte, Nat.reduceEqDiff])
          | (apply wc_ret; try simp only [thenE, inBlockE, bodyQ])
          | (apply wr_nil; try simp only [thenE, inBlockE, bodyQ])
          | (apply wr_skip; exact rfl))
    refine wr_loadAll (cs := [.int .i64 num', .int .i64 kind', .int .u64 (n' : Int), S s']) rfl rfl rfl hf3 rfl ?_
    refine wr_buildSlice (vs := [.agg #[.int .i64 num', .int .i64 kind', .int .u64 (n' : Int), S s']]) rfl rfl (by intro v hv; simp at hv; subst hv; rfl) rfl (by decide) (by decide) (by decide) ?_
    refine wr_call (vs := [.slice (some ⟨w3.heap.size, 0, none⟩) 1 1]) rfl (ref_ca [⟨num', kind', n', s'⟩] _ _ ⟨rfl, _, _, rfl, Nat.le_refl _, .inr ⟨_, 0, _, _, _, rfl, heap_alloc_same _ _, fun j hj => by rw [Nat.zero_add, List.getElem?_toArray]; rfl⟩⟩ (show 1 ≤ 1000000000000 by decide)) rfl ?_
    rintro v w4 ⟨ho4, hk4⟩
    obtain ⟨ar, cr, rfl, hcr, har⟩ := (SlR.of_own ho4).shape
    obtain ⟨br, orr, rfl, curr, er, frr, hbr, hrr⟩ := har (show 0 < 1 by decide)
    have hk34 := ((Keeps.refl NoB w3).alloc (.cells ([(.agg #[.int .i64 num', .int .i64 kind', .int .u64 (n' : Int), S s'] : Value)].flatMap (fun v => v.cells.toList)).toArray 29)).trans hk4
    have hf4 := hk34.heap hf3 (fun h => h)
    refine wr_indexAddr (i := 0) rfl rfl rfl (show 0 < 1 by decide) ?_
    refine wr_loadElem (G := WF.cs) (n := 1) (i := 0) (l := [⟨num', kind', n', s'⟩]) rfl rfl WF.cs_len rfl hbr hrr (by decide) rfl rfl ?_
    refine wr_call (vs := [.agg #[.int .i64 num', .int .i64 kind', .int .u64 (n' : Int), S s']]) rfl (rput_ca ⟨num', kind', n', s'⟩ hx' _) rfl ?_
    rintro v w5 ⟨rfl, hk5⟩
    have hf5 := hk5.heap hf4 (fun h => h)
    rw [hp]
    have hk25 := hk2.trans (hk3.trans (hk34.trans hk5))
    clear hk2 hk3 hk34 hk4 hk5 hf2 hf3 hf4
    repeat (first
          | (apply wr_move; exact rfl; with_reducible (conv => enter [6, 3]; whnf))
          | (apply wr_assign; exact rfl; with_reducible (conv => enter [6, 3]; whnf))
          | apply wr_end
          | apply wc_seq
          | apply wc_region
          | (apply wr_fieldAddr; exact rfl; exact rfl)
          | (apply wr_load; exact rfl; exact rfl; exact rfl; (first | with_reducible assumption | exact heap_alloc_same _ _ | ((repeat (first | refine (heap_alloc_ne _ _ (by (first | omega | (simp only [World.size_alloc, World.putObj_size, ne_eq]; omega)))).trans ?_ | refine (heap_put_ne _ _ (by (first | omega | (simp only [World.size_alloc, World.putObj_size, ne_eq]; omega)))).trans ?_)); (first | with_reducible assumption | exact heap_alloc_same _ _ | exact World.putObj_heap_same (by (first | omega | (simp only [World.size_alloc, World.putObj_size, ne_eq]; omega)))))); exact rfl; conv => enter [6, 3]; whnf)
          | (apply wr_cmp; exact rfl; exact rfl; exact rfl; (first | exact cmp_lt_t (by omega) | exact cmp_lt_f (by omega) | exact cmp_eq_t (by omega) | exact cmp_eq_f (by omega) | exact cmp_ne_t (by omega) | exact cmp_ne_f (by omega) | exact cmp_le_t (by omega) | exact cmp_le_f (by omega) | exact cmp_gt_t (by omega) | exact cmp_gt_f (by omega) | exact cmp_ge_t (by omega) | exact cmp_ge_f (by omega) | exact cmp_lt _ _ | exact cmp_le _ _ | exact cmp_gt _ _ | exact cmp_ge _ _ | exact cmp_eq _ _ | exact cmp_ne _ _))
          | (apply wr_pick (t := true); exact rfl; exact rfl; with_reducible (conv => enter [6, 3]; whnf))
          | (apply wr_pick (t := false); exact rfl; exact rfl; with_reducible (conv => enter [6, 3]; whnf))
          | (apply wr_add; exact rfl; exact rfl; exact rfl; (first | exact w_i64 (by omega) | exact w_u64 (by omega) | exact w_u8 (by omega) | exact w_u16 (by omega) | exact w_i32 (by omega) | exact w_u32 (by omega) | with_reducible assumption | rfl))
          | (apply wr_sub; exact rfl; exact rfl; exact rfl; (first | exact w_i64 (by omega) | exact w_u64 (by omega) | exact w_u8 (by omega) | exact w_u16 (by omega) | exact w_i32 (by omega) | exact w_u32 (by omega) | with_reducible assumption | rfl))
          | (apply wr_mul; exact rfl; exact rfl; exact rfl; (first | exact w_i64 (by omega) | exact w_u64 (by omega) | exact w_u8 (by omega) | exact w_u16 (by omega) | exact w_i32 (by omega) | exact w_u32 (by omega) | with_reducible assumption | rfl))
          | (apply wr_conv; exact rfl; exact rfl; (first | exact w_i64 (by omega) | exact w_u64 (by omega) | exact w_u8 (by omega) | exact w_u16 (by omega) | exact w_i32 (by omega) | exact w_u32 (by omega) | with_reducible assumption | rfl))
          | (apply wr_not; exact rfl; exact rfl)
          | (apply wr_extract; exact rfl; exact rfl; exact rfl; with_reducible (conv => enter [6, 3]; whnf))
          | (apply wr_len_str; exact rfl; exact rfl)
          | (apply wr_len_slice; exact rfl; exact rfl)
          | (apply wr_store; exact rfl; exact rfl; exact rfl; (first | exact rfl | with_reducible assumption); (first | with_reducible assumption | exact heap_alloc_same _ _ | ((repeat (first | refine (heap_alloc_ne _ _ (by (first | omega | (simp only [World.size_alloc, World.putObj_size, ne_eq]; omega)))).trans ?_ | refine (heap_put_ne _ _ (by (first | omega | (simp only [World.size_alloc, World.putObj_size, ne_eq]; omega)))).trans ?_)); (first | with_reducible assumption | exact heap_alloc_same _ _ | exact World.putObj_heap_same (by (first | omega | (simp only [World.size_alloc, World.putObj_size, ne_eq]; omega)))))); exact rfl)
          | (apply wr_box; exact rfl; exact rfl)
          | (apply wr_alloc; exact rfl)
          | (apply wr_cat; exact rfl; exact rfl; exact rfl; (first | omega | (simp only [List.length_append]; omega)))
          | (apply wr_streqc; exact rfl; exact rfl; exact rfl; (first | exact decide_eq_true (by with_reducible assumption) | exact decide_eq_false (by with_reducible assumption) | exact decide_eq_true rfl | exact rfl))
          | (apply wr_strnec; exact rfl; exact rfl; exact rfl; (first | exact decide_eq_true (by with_reducible assumption) | exact decide_eq_false (by with_reducible assumption) | exact decide_eq_true rfl | exact rfl); with_reducible (conv => enter [6, 3]; whnf))
          | (apply wr_bits; exact rfl; (focus (simp; done)); exact rfl; exact rfl; assumption)
          | (apply wr_eqnil_t; exact rfl; exact rfl)
          | (apply wr_eqnil_f; exact rfl; exact rfl)
          | (apply wr_nenil_f; exact rfl; exact rfl)
          | (apply wr_nenil_t; exact rfl; exact rfl)
          | (apply wc_true; exact rfl)
          | (apply wc_false; exact rfl)
          | apply wc_skip
          | apply wc_block
          | (apply wc_exit; try simp only [thenE, inBlockE, bodyQ, ↓reduceIte, Nat.reduceEqDiff])
          | (apply wc_ret; try simp only [thenE, inBlockE, bodyQ])
          | (apply wr_nil; try simp only [thenE, inBlockE, bodyQ])
          | (apply wr_skip; exact rfl))
    refine wc_drawS (l := _) (S := fun w' => w'.heap[w.heap.size]? = some (.cells #[.int .i64 num', .int .i64 kind', .int .u64 (n' : Int), S s'] 29 (0, 0)) ∧ Keeps NoB w5 w') (by kernel_rfl) (by kernel_rfl) ⟨hf5, (Keeps.refl NoB w5).drew⟩ ?_
    repeat
      apply ch_step
      focus
        intro w' hS
        obtain ⟨hF, hS⟩ := hS
        repeat (first
              | (apply wr_move; exact rfl; with_reducible (conv => enter [6, 3]; whnf))
              | (apply wr_assign; exact rfl; with_reducible (conv => enter [6, 3]; whnf))
              | apply wr_end
              | apply wc_seq
              | apply wc_region
              | (apply wr_fieldAddr; exact rfl; exact rfl)
              | (apply wr_load; exact rfl; exact rfl; exact rfl; (first | with_reducible assumption | exact heap_alloc_same _ _ | ((repeat (first | refine (heap_alloc_ne _ _ (by (first | omega | (simp only [World.size_alloc, World.putObj_size, ne_eq]; omega)))).trans ?_ | refine (heap_put_ne _ _ (by (first | omega | (simp only [World.size_alloc, World.putObj_size, ne_eq]; omega)))).trans ?_)); (first | with_reducible assumption | exact heap_alloc_same _ _ | exact World.putObj_heap_same (by (first | omega | (simp only [World.size_alloc, World.putObj_size, ne_eq]; omega)))))); exact rfl; conv => enter [6, 3]; whnf)
              | (apply wr_cmp; exact rfl; exact rfl; exact rfl; (first | exact cmp_lt_t (by omega) | exact cmp_lt_f (by omega) | exact cmp_eq_t (by omega) | exact cmp_eq_f (by omega) | exact cmp_ne_t (by omega) | exact cmp_ne_f (by omega) | exact cmp_le_t (by omega) | exact cmp_le_f (by omega) | exact cmp_gt_t (by omega) | exact cmp_gt_f (by omega) | exact cmp_ge_t (by omega) | exact cmp_ge_f (by omega) | exact cmp_lt _ _ | exact cmp_le _ _ | exact cmp_gt _ _ | exact cmp_ge _ _ | exact cmp_eq _ _ | exact cmp_ne _ _))
              | (apply wr_pick (t := true); exact rfl; exact rfl; with_reducible (conv => enter [6, 3]; whnf))
              | (apply wr_pick (t := false); exact rfl; exact rfl; with_reducible (conv => enter [6, 3]; whnf))
              | (apply wr_add; exact rfl; exact rfl; exact rfl; (first | exact w_i64 (by omega) | exact w_u64 (by omega) | exact w_u8 (by omega) | exact w_u16 (by omega) | exact w_i32 (by omega) | exact w_u32 (by omega) | with_reducible assumption | rfl))
              | (apply wr_sub; exact rfl; exact rfl; exact rfl; (first | exact w_i64 (by omega) | exact w_u64 (by omega) | exact w_u8 (by omega) | exact w_u16 (by omega) | exact w_i32 (by omega) | exact w_u32 (by omega) | with_reducible assumption | rfl))
              | (apply wr_mul; exact rfl; exact rfl; exact rfl; (first | exact w_i64 (by omega) | exact w_u64 (by omega) | exact w_u8 (by omega) | exact w_u16 (by omega) | exact w_i32 (by omega) | exact w_u32 (by omega) | with_reducible assumption | rfl))
              | (apply wr_conv; exact rfl; exact rfl; (first | exact w_i64 (by omega) | exact w_u64 (by omega) | exact w_u8 (by omega) | exact w_u16 (by omega) | exact w_i32 (by omega) | exact w_u32 (by omega) | with_reducible assumption | rfl))
              | (apply wr_not; exact rfl; exact rfl)
              | (apply wr_extract; exact rfl; exact rfl; exact rfl; with_reducible (conv => enter [6, 3]; whnf))
              | (apply wr_len_str; exact rfl; exact rfl)
              | (apply wr_len_slice; exact rfl; exact rfl)
              | (apply wr_store; exact rfl; exact rfl; exact rfl; (first | exact rfl | with_reducible assumption); (first | with_reducible assumption | exact heap_alloc_same _ _ | ((repeat (first | refine (heap_alloc_ne _ _ (by (first | omega | (simp only [World.size_alloc, World.putObj_size, ne_eq]; omega)))).trans ?_ | refine (heap_put_ne _ _ (by (first | omega | (simp only [World.size_alloc, World.putObj_size, ne_eq]; omega)))).trans ?_)); (first | with_reducible assumption | exact heap_alloc_same _ _ | exact World.putObj_heap_same (by (first | omega | (simp only [World.size_alloc, World.putObj_size, ne_eq]; omega)))))); exact rfl)
              | (apply wr_box; exact rfl; exact rfl)
              | (apply wr_alloc; exact rfl)
              | (apply wr_cat; exact rfl; exact rfl; exact rfl; (first | omega | (simp only [List.length_append]; omega)))
              | (apply wr_streqc; exact rfl; exact rfl; exact rfl; (first | exact decide_eq_true (by with_reducible assumption) | exact decide_eq_false (by with_reducible assumption) | exact decide_eq_true rfl | exact rfl))
              | (apply wr_strnec; exact rfl; exact rfl; exact rfl; (first | exact decide_eq_true (by with_reducible assumption) | exact decide_eq_false (by with_reducible assumption) | exact decide_eq_true rfl | exact rfl); with_reducible (conv => enter [6, 3]; whnf))
              | (apply wr_bits; exact rfl; (focus (simp; done)); exact rfl; exact rfl; assumption)
              | (apply wr_eqnil_t; exact rfl; exact rfl)
              | (apply wr_eqnil_f; exact rfl; exact rfl)
              | (apply wr_nenil_f; exact rfl; exact rfl)
              | (apply wr_nenil_t; exact rfl; exact rfl)
              | (apply wc_true; exact rfl)
              | (apply wc_false; exact rfl)
              | apply wc_skip
              | apply wc_block
              | (apply wc_exit; try simp only [thenE, inBlockE, bodyQ, ↓reduceIte, Nat.reduceEqDiff])
              | (apply wc_ret; try simp only [thenE, inBlockE, bodyQ])
              | (apply wr_nil; try simp only [thenE, inBlockE, bodyQ])
              | (apply wr_skip; exact rfl))
        exact ⟨rfl, hF, hS⟩
    apply ch_step
    focus
      intro w' hS
      obtain ⟨hF, hS⟩ := hS
      refine wr_boolEq (c := true) rfl rfl rfl (by simp) ?_
      apply wr_nil
      exact ⟨rfl, hF, hS⟩
    repeat
      apply ch_step
      focus
        intro w' hS
        obtain ⟨hF, hS⟩ := hS
        repeat (first
              | (apply wr_move; exact rfl; with_reducible (conv => enter [6, 3]; whnf))
              | (apply wr_assign; exact rfl; with_reducible (conv => enter [6, 3]; whnf))
              | apply wr_end
              | apply wc_seq
              | apply wc_region
              | (apply wr_fieldAddr; exact rfl; exact rfl)
              | (apply wr_load; exact rfl; exact rfl; exact rfl; (first | with_reducible assumption | exact heap_alloc_same _ _ | ((repeat (first | refine (heap_alloc_ne _ _ (by (first | omega | (simp only [World.size_alloc, World.putObj_size, ne_eq]; omega)))).trans ?_ | refine (heap_put_ne _ _ (by (first | omega | (simp only [World.size_alloc, World.putObj_size, ne_eq]; omega)))).trans ?_)); (first | with_reducible assumption | exact heap_alloc_same _ _ | exact World.putObj_heap_same (by (first | omega | (simp only [World.size_alloc, World.putObj_size, ne_eq]; omega)))))); exact rfl; conv => enter [6, 3]; whnf)
              | (apply wr_cmp; exact rfl; exact rfl; exact rfl; (first | exact cmp_lt_t (by omega) | exact cmp_lt_f (by omega) | exact cmp_eq_t (by omega) | exact cmp_eq_f (by omega) | exact cmp_ne_t (by omega) | exact cmp_ne_f (by omega) | exact cmp_le_t (by omega) | exact cmp_le_f (by omega) | exact cmp_gt_t (by omega) | exact cmp_gt_f (by omega) | exact cmp_ge_t (by omega) | exact cmp_ge_f (by omega) | exact cmp_lt _ _ | exact cmp_le _ _ | exact cmp_gt _ _ | exact cmp_ge _ _ | exact cmp_eq _ _ | exact cmp_ne _ _))
              | (apply wr_pick (t := true); exact rfl; exact rfl; with_reducible (conv => enter [6, 3]; whnf))
              | (apply wr_pick (t := false); exact rfl; exact rfl; with_reducible (conv => enter [6, 3]; whnf))
              | (apply wr_add; exact rfl; exact rfl; exact rfl; (first | exact w_i64 (by omega) | exact w_u64 (by omega) | exact w_u8 (by omega) | exact w_u16 (by omega) | exact w_i32 (by omega) | exact w_u32 (by omega) | with_reducible assumption | rfl))
              | (apply wr_sub; exact rfl; exact rfl; exact rfl; (first | exact w_i64 (by omega) | exact w_u64 (by omega) | exact w_u8 (by omega) | exact w_u16 (by omega) | exact w_i32 (by omega) | exact w_u32 (by omega) | with_reducible assumption | rfl))
              | (apply wr_mul; exact rfl; exact rfl; exact rfl; (first | exact w_i64 (by omega) | exact w_u64 (by omega) | exact w_u8 (by omega) | exact w_u16 (by omega) | exact w_i32 (by omega) | exact w_u32 (by omega) | with_reducible assumption | rfl))
              | (apply wr_conv; exact rfl; exact rfl; (first | exact w_i64 (by omega) | exact w_u64 (by omega) | exact w_u8 (by omega) | exact w_u16 (by omega) | exact w_i32 (by omega) | exact w_u32 (by omega) | with_reducible assumption | rfl))
              | (apply wr_not; exact rfl; exact rfl)
              | (apply wr_extract; exact rfl; exact rfl; exact rfl; with_reducible (conv => enter [6, 3]; whnf))
              | (apply wr_len_str; exact rfl; exact rfl)
              | (apply wr_len_slice; exact rfl; exact rfl)
              | (apply wr_store; exact rfl; exact rfl; exact rfl; (first | exact rfl | with_reducible assumption); (first | with_reducible assumption | exact heap_alloc_same _ _ | ((repeat (first | refine (heap_alloc_ne _ _ (by (first | omega | (simp only [World.size_alloc, World.putObj_size, ne_eq]; omega)))).trans ?_ | refine (heap_put_ne _ _ (by (first | omega | (simp only [World.size_alloc, World.putObj_size, ne_eq]; omega)))).trans ?_)); (first | with_reducible assumption | exact heap_alloc_same _ _ | exact World.putObj_heap_same (by (first | omega | (simp only [World.size_alloc, World.putObj_size, ne_eq]; omega)))))); exact rfl)
              | (apply wr_box; exact rfl; exact rfl)
              | (apply wr_alloc; exact rfl)
              | (apply wr_cat; exact rfl; exact rfl; exact rfl; (first | omega | (simp only [List.length_append]; omega)))
              | (apply wr_streqc; exact rfl; exact rfl; exact rfl; (first | exact decide_eq_true (by with_reducible assumption) | exact decide_eq_false (by with_reducible assumption) | exact decide_eq_true rfl | exact rfl))
              | (apply wr_strnec; exact rfl; exact rfl; exact rfl; (first | exact decide_eq_true (by with_reducible assumption) | exact decide_eq_false (by with_reducible assumption) | exact decide_eq_true rfl | exact rfl); with_reducible (conv => enter [6, 3]; whnf))
              | (apply wr_bits; exact rfl; (focus (simp; done)); exact rfl; exact rfl; assumption)
              | (apply wr_eqnil_t; exact rfl; exact rfl)
              | (apply wr_eqnil_f; exact rfl; exact rfl)
              | (apply wr_nenil_f; exact rfl; exact rfl)
              | (apply wr_nenil_t; exact rfl; exact rfl)
              | (apply wc_true; exact rfl)
              | (apply wc_false; exact rfl)
              | apply wc_skip
              | apply wc_block
              | (apply wc_exit; try simp only [thenE, inBlockE, bodyQ, ↓reduceIte, Nat.reduceEqDiff])
              | (apply wc_ret; try simp only [thenE, inBlockE, bodyQ])
              | (apply wr_nil; try simp only [thenE, inBlockE, bodyQ])
              | (apply wr_skip; exact rfl))
        exact ⟨rfl, hF, hS⟩
    apply ch_step
    focus
      intro w' hS
      obtain ⟨hF, hS⟩ := hS
      refine wr_call (vs := [.int .i64 num', .int .u64 (n' : Int)]) rfl (number_ca num' n' hnum' hn' _) rfl ?_
      rintro v w'' ⟨rfl, hk''⟩
      apply wr_nil
      exact ⟨rfl, hk''.heap hF (fun h => h), hS.trans hk''⟩
    repeat
      apply ch_step
      focus
        intro w' hS
        obtain ⟨hF, hS⟩ := hS
        repeat (first
              | (apply wr_move; exact rfl; with_reducible (conv => enter [6, 3]; whnf))
              | (apply wr_assign; exact rfl; with_reducible (conv => enter [6, 3]; whnf))
              | apply wr_end
              | apply wc_seq
              | apply wc_region
              | (apply wr_fieldAddr; exact rfl; exact rfl)
              | (apply wr_load; exact rfl; exact rfl; exact rfl; (first | with_reducible assumption | exact heap_alloc_same _ _ | ((repeat (first | refine (heap_alloc_ne _ _ (by (first | omega | (simp only [World.size_alloc, World.putObj_size, ne_eq]; omega)))).trans ?_ | refine (heap_put_ne _ _ (by (first | omega | (simp only [World.size_alloc, World.putObj_size, ne_eq]; omega)))).trans ?_)); (first | with_reducible assumption | exact heap_alloc_same _ _ | exact World.putObj_heap_same (by (first | omega | (simp only [World.size_alloc, World.putObj_size, ne_eq]; omega)))))); exact rfl; conv => enter [6, 3]; whnf)
              | (apply wr_cmp; exact rfl; exact rfl; exact rfl; (first | exact cmp_lt_t (by omega) | exact cmp_lt_f (by omega) | exact cmp_eq_t (by omega) | exact cmp_eq_f (by omega) | exact cmp_ne_t (by omega) | exact cmp_ne_f (by omega) | exact cmp_le_t (by omega) | exact cmp_le_f (by omega) | exact cmp_gt_t (by omega) | exact cmp_gt_f (by omega) | exact cmp_ge_t (by omega) | exact cmp_ge_f (by omega) | exact cmp_lt _ _ | exact cmp_le _ _ | exact cmp_gt _ _ | exact cmp_ge _ _ | exact cmp_eq _ _ | exact cmp_ne _ _))
              | (apply wr_pick (t := true); exact rfl; exact rfl; with_reducible (conv => enter [6, 3]; whnf))
              | (apply wr_pick (t := false); exact rfl; exact rfl; with_reducible (conv => enter [6, 3]; whnf))
              | (apply wr_add; exact rfl; exact rfl; exact rfl; (first | exact w_i64 (by omega) | exact w_u64 (by omega) | exact w_u8 (by omega) | exact w_u16 (by omega) | exact w_i32 (by omega) | exact w_u32 (by omega) | with_reducible assumption | rfl))
              | (apply wr_sub; exact rfl; exact rfl; exact rfl; (first | exact w_i64 (by omega) | exact w_u64 (by omega) | exact w_u8 (by omega) | exact w_u16 (by omega) | exact w_i32 (by omega) | exact w_u32 (by omega) | with_reducible assumption | rfl))
              | (apply wr_mul; exact rfl; exact rfl; exact rfl; (first | exact w_i64 (by omega) | exact w_u64 (by omega) | exact w_u8 (by omega) | exact w_u16 (by omega) | exact w_i32 (by omega) | exact w_u32 (by omega) | with_reducible assumption | rfl))
              | (apply wr_conv; exact rfl; exact rfl; (first | exact w_i64 (by omega) | exact w_u64 (by omega) | exact w_u8 (by omega) | exact w_u16 (by omega) | exact w_i32 (by omega) | exact w_u32 (by omega) | with_reducible assumption | rfl))
              | (apply wr_not; exact rfl; exact rfl)
              | (apply wr_extract; exact rfl; exact rfl; exact rfl; with_reducible (conv => enter [6, 3]; whnf))
              | (apply wr_len_str; exact rfl; exact rfl)
              | (apply wr_len_slice; exact rfl; exact rfl)
              | (apply wr_store; exact rfl; exact rfl; exact rfl; (first | exact rfl | with_reducible assumption); (first | with_reducible assumption | exact heap_alloc_same _ _ | ((repeat (first | refine (heap_alloc_ne _ _ (by (first | omega | (simp only [World.size_alloc, World.putObj_size, ne_eq]; omega)))).trans ?_ | refine (heap_put_ne _ _ (by (first | omega | (simp only [World.size_alloc, World.putObj_size, ne_eq]; omega)))).trans ?_)); (first | with_reducible assumption | exact heap_alloc_same _ _ | exact World.putObj_heap_same (by (first | omega | (simp only [World.size_alloc, World.putObj_size, ne_eq]; omega)))))); exact rfl)
              | (apply wr_box; exact rfl; exact rfl)
              | (apply wr_alloc; exact rfl)
              | (apply wr_cat; exact rfl; exact rfl; exact rfl; (first | omega | (simp only [List.length_append]; omega)))
              | (apply wr_streqc; exact rfl; exact rfl; exact rfl; (first | exact decide_eq_true (by with_reducible assumption) | exact decide_eq_false (by with_reducible assumption) | exact decide_eq_true rfl | exact rfl))
              | (apply wr_strnec; exact rfl; exact rfl; exact rfl; (first | exact decide_eq_true (by with_reducible assumption) | exact decide_eq_false (by with_reducible assumption) | exact decide_eq_true rfl | exact rfl); with_reducible (conv => enter [6, 3]; whnf))
              | (apply wr_bits; exact rfl; (focus (simp; done)); exact rfl; exact rfl; assumption)
              | (apply wr_eqnil_t; exact rfl; exact rfl)
              | (apply wr_eqnil_f; exact rfl; exact rfl)
              | (apply wr_nenil_f; exact rfl; exact rfl)
              | (apply wr_nenil_t; exact rfl; exact rfl)
              | (apply wc_true; exact rfl)
              | (apply wc_false; exact rfl)
              | apply wc_skip
              | apply wc_block
              | (apply wc_exit; try simp only [thenE, inBlockE, bodyQ, ↓reduceIte, Nat.reduceEqDiff])
              | (apply wc_ret; try simp only [thenE, inBlockE, bodyQ])
              | (apply wr_nil; try simp only [thenE, inBlockE, bodyQ])
              | (apply wr_skip; exact rfl))
        exact ⟨rfl, hF, hS⟩
    apply ch_step
    focus
      intro w' hS
      obtain ⟨hF, hS⟩ := hS
      refine wr_call (vs := [.int .i64 num', .int .u64 (n' : Int)]) rfl (rnumber_ca num' n' hnum' hn' _) rfl ?_
      rintro v w'' ⟨rfl, hk''⟩
      apply wr_nil
      exact ⟨rfl, hk''.heap hF (fun h => h), hS.trans hk''⟩
    repeat
      apply ch_step
      focus
        intro w' hS
        obtain ⟨hF, hS⟩ := hS
        repeat (first
              | (apply wr_move; exact rfl; with_reducible (conv => enter [6, 3]; whnf))
              | (apply wr_assign; exact rfl; with_reducible (conv => enter [6, 3]; whnf))
              | apply wr_end
              | apply wc_seq
              | apply wc_region
              | (apply wr_fieldAddr; exact rfl; exact rfl)
              | (apply wr_load; exact rfl; exact rfl; exact rfl; (first | with_reducible assumption | exact heap_alloc_same _ _ | ((repeat (first | refine (heap_alloc_ne _ _ (by (first | omega | (simp only [World.size_alloc, World.putObj_size, ne_eq]; omega)))).trans ?_ | refine (heap_put_ne _ _ (by (first | omega | (simp only [World.size_alloc, World.putObj_size, ne_eq]; omega)))).trans ?_)); (first | with_reducible assumption | exact heap_alloc_same _ _ | exact World.putObj_heap_same (by (first | omega | (simp only [World.size_alloc, World.putObj_size, ne_eq]; omega)))))); exact rfl; conv => enter [6, 3]; whnf)
              | (apply wr_cmp; exact rfl; exact rfl; exact rfl; (first | exact cmp_lt_t (by omega) | exact cmp_lt_f (by omega) | exact cmp_eq_t (by omega) | exact cmp_eq_f (by omega) | exact cmp_ne_t (by omega) | exact cmp_ne_f (by omega) | exact cmp_le_t (by omega) | exact cmp_le_f (by omega) | exact cmp_gt_t (by omega) | exact cmp_gt_f (by omega) | exact cmp_ge_t (by omega) | exact cmp_ge_f (by omega) | exact cmp_lt _ _ | exact cmp_le _ _ | exact cmp_gt _ _ | exact cmp_ge _ _ | exact cmp_eq _ _ | exact cmp_ne _ _))
              | (apply wr_pick (t := true); exact rfl; exact rfl; with_reducible (conv => enter [6, 3]; whnf))
              | (apply wr_pick (t := false); exact rfl; exact rfl; with_reducible (conv => enter [6, 3]; whnf))
              | (apply wr_add; exact rfl; exact rfl; exact rfl; (first | exact w_i64 (by omega) | exact w_u64 (by omega) | exact w_u8 (by omega) | exact w_u16 (by omega) | exact w_i32 (by omega) | exact w_u32 (by omega) | with_reducible assumption | rfl))
              | (apply wr_sub; exact rfl; exact rfl; exact rfl; (first | exact w_i64 (by omega) | exact w_u64 (by omega) | exact w_u8 (by omega) | exact w_u16 (by omega) | exact w_i32 (by omega) | exact w_u32 (by omega) | with_reducible assumption | rfl))
              | (apply wr_mul; exact rfl; exact rfl; exact rfl; (first | exact w_i64 (by omega) | exact w_u64 (by omega) | exact w_u8 (by omega) | exact w_u16 (by omega) | exact w_i32 (by omega) | exact w_u32 (by omega) | with_reducible assumption | rfl))
              | (apply wr_conv; exact rfl; exact rfl; (first | exact w_i64 (by omega) | exact w_u64 (by omega) | exact w_u8 (by omega) | exact w_u16 (by omega) | exact w_i32 (by omega) | exact w_u32 (by omega) | with_reducible assumption | rfl))
              | (apply wr_not; exact rfl; exact rfl)
              | (apply wr_extract; exact rfl; exact rfl; exact rfl; with_reducible (conv => enter [6, 3]; whnf))
              | (apply wr_len_str; exact rfl; exact rfl)
              | (apply wr_len_slice; exact rfl; exact rfl)
              | (apply wr_store; exact rfl; exact rfl; exact rfl; (first | exact rfl | with_reducible assumption); (first | with_reducible assumption | exact heap_alloc_same _ _ | ((repeat (first | refine (heap_alloc_ne _ _ (by (first | omega | (simp only [World.size_alloc, World.putObj_size, ne_eq]; omega)))).trans ?_ | refine (heap_put_ne _ _ (by (first | omega | (simp only [World.size_alloc, World.putObj_size, ne_eq]; omega)))).trans ?_)); (first | with_reducible assumption | exact heap_alloc_same _ _ | exact World.putObj_heap_same (by (first | omega | (simp only [World.size_alloc, World.putObj_size, ne_eq]; omega)))))); exact rfl)
              | (apply wr_box; exact rfl; exact rfl)
              | (apply wr_alloc; exact rfl)
              | (apply wr_cat; exact rfl; exact rfl; exact rfl; (first | omega | (simp only [List.length_append]; omega)))
              | (apply wr_streqc; exact rfl; exact rfl; exact rfl; (first | exact decide_eq_true (by with_reducible assumption) | exact decide_eq_false (by with_reducible assumption) | exact decide_eq_true rfl | exact rfl))
              | (apply wr_strnec; exact rfl; exact rfl; exact rfl; (first | exact decide_eq_true (by with_reducible assumption) | exact decide_eq_false (by with_reducible assumption) | exact decide_eq_true rfl | exact rfl); with_reducible (conv => enter [6, 3]; whnf))
              | (apply wr_bits; exact rfl; (focus (simp; done)); exact rfl; exact rfl; assumption)
              | (apply wr_eqnil_t; exact rfl; exact rfl)
              | (apply wr_eqnil_f; exact rfl; exact rfl)
              | (apply wr_nenil_f; exact rfl; exact rfl)
              | (apply wr_nenil_t; exact rfl; exact rfl)
              | (apply wc_true; exact rfl)
              | (apply wc_false; exact rfl)
              | apply wc_skip
              | apply wc_block
              | (apply wc_exit; try simp only [thenE, inBlockE, bodyQ, ↓reduceIte, Nat.reduceEqDiff])
              | (apply wc_ret; try simp only [thenE, inBlockE, bodyQ])
              | (apply wr_nil; try simp only [thenE, inBlockE, bodyQ])
              | (apply wr_skip; exact rfl))
        exact ⟨rfl, hF, hS⟩
    apply ch_step
    focus
      intro w' hS
      obtain ⟨hF, hS⟩ := hS
      refine wr_call (vs := [.int .i64 num', S s']) rfl (text_ca num' s' hnum' hs _) rfl ?_
      rintro v w'' ⟨rfl, hk''⟩
      apply wr_nil
      exact ⟨rfl, hk''.heap hF (fun h => h), hS.trans hk''⟩
    repeat
      apply ch_step
      focus
        intro w' hS
        obtain ⟨hF, hS⟩ := hS
        repeat (first
              | (apply wr_move; exact rfl; with_reducible (conv => enter [6, 3]; whnf))
              | (apply wr_assign; exact rfl; with_reducible (conv => enter [6, 3]; whnf))
              | apply wr_end
              | apply wc_seq
              | apply wc_region
              | (apply wr_fieldAddr; exact rfl; exact rfl)
              | (apply wr_load; exact rfl; exact rfl; exact rfl; (first | with_reducible assumption | exact heap_alloc_same _ _ | ((repeat (first | refine (heap_alloc_ne _ _ (by (first | omega | (simp only [World.size_alloc, World.putObj_size, ne_eq]; omega)))).trans ?_ | refine (heap_put_ne _ _ (by (first | omega | (simp only [World.size_alloc, World.putObj_size, ne_eq]; omega)))).trans ?_)); (first | with_reducible assumption | exact heap_alloc_same _ _ | exact World.putObj_heap_same (by (first | omega | (simp only [World.size_alloc, World.putObj_size, ne_eq]; omega)))))); exact rfl; conv => enter [6, 3]; whnf)
              | (apply wr_cmp; exact rfl; exact rfl; exact rfl; (first | exact cmp_lt_t (by omega) | exact cmp_lt_f (by omega) | exact cmp_eq_t (by omega) | exact cmp_eq_f (by omega) | exact cmp_ne_t (by omega) | exact cmp_ne_f (by omega) | exact cmp_le_t (by omega) | exact cmp_le_f (by omega) | exact cmp_gt_t (by omega) | exact cmp_gt_f (by omega) | exact cmp_ge_t (by omega) | exact cmp_ge_f (by omega) | exact cmp_lt _ _ | exact cmp_le _ _ | exact cmp_gt _ _ | exact cmp_ge _ _ | exact cmp_eq _ _ | exact cmp_ne _ _))
              | (apply wr_pick (t := true); exact rfl; exact rfl; with_reducible (conv => enter [6, 3]; whnf))
              | (apply wr_pick (t := false); exact rfl; exact rfl; with_reducible (conv => enter [6, 3]; whnf))
              | (apply wr_add; exact rfl; exact rfl; exact rfl; (first | exact w_i64 (by omega) | exact w_u64 (by omega) | exact w_u8 (by omega) | exact w_u16 (by omega) | exact w_i32 (by omega) | exact w_u32 (by omega) | with_reducible assumption | rfl))
              | (apply wr_sub; exact rfl; exact rfl; exact rfl; (first | exact w_i64 (by omega) | exact w_u64 (by omega) | exact w_u8 (by omega) | exact w_u16 (by omega) | exact w_i32 (by omega) | exact w_u32 (by omega) | with_reducible assumption | rfl))
              | (apply wr_mul; exact rfl; exact rfl; exact rfl; (first | exact w_i64 (by omega) | exact w_u64 (by omega) | exact w_u8 (by omega) | exact w_u16 (by omega) | exact w_i32 (by omega) | exact w_u32 (by omega) | with_reducible assumption | rfl))
              | (apply wr_conv; exact rfl; exact rfl; (first | exact w_i64 (by omega) | exact w_u64 (by omega) | exact w_u8 (by omega) | exact w_u16 (by omega) | exact w_i32 (by omega) | exact w_u32 (by omega) | with_reducible assumption | rfl))
              | (apply wr_not; exact rfl; exact rfl)
              | (apply wr_extract; exact rfl; exact rfl; exact rfl; with_reducible (conv => enter [6, 3]; whnf))
              | (apply wr_len_str; exact rfl; exact rfl)
              | (apply wr_len_slice; exact rfl; exact rfl)
              | (apply wr_store; exact rfl; exact rfl; exact rfl; (first | exact rfl | with_reducible assumption); (first | with_reducible assumption | exact heap_alloc_same _ _ | ((repeat (first | refine (heap_alloc_ne _ _ (by (first | omega | (simp only [World.size_alloc, World.putObj_size, ne_eq]; omega)))).trans ?_ | refine (heap_put_ne _ _ (by (first | omega | (simp only [World.size_alloc, World.putObj_size, ne_eq]; omega)))).trans ?_)); (first | with_reducible assumption | exact heap_alloc_same _ _ | exact World.putObj_heap_same (by (first | omega | (simp only [World.size_alloc, World.putObj_size, ne_eq]; omega)))))); exact rfl)
              | (apply wr_box; exact rfl; exact rfl)
              | (apply wr_alloc; exact rfl)
              | (apply wr_cat; exact rfl; exact rfl; exact rfl; (first | omega | (simp only [List.length_append]; omega)))
              | (apply wr_streqc; exact rfl; exact rfl; exact rfl; (first | exact decide_eq_true (by with_reducible assumption) | exact decide_eq_false (by with_reducible assumption) | exact decide_eq_true rfl | exact rfl))
              | (apply wr_strnec; exact rfl; exact rfl; exact rfl; (first | exact decide_eq_true (by with_reducible assumption) | exact decide_eq_false (by with_reducible assumption) | exact decide_eq_true rfl | exact rfl); with_reducible (conv => enter [6, 3]; whnf))
              | (apply wr_bits; exact rfl; (focus (simp; done)); exact rfl; exact rfl; assumption)
              | (apply wr_eqnil_t; exact rfl; exact rfl)
              | (apply wr_eqnil_f; exact rfl; exact rfl)
              | (apply wr_nenil_f; exact rfl; exact rfl)
              | (apply wr_nenil_t; exact rfl; exact rfl)
              | (apply wc_true; exact rfl)
              | (apply wc_false; exact rfl)
              | apply wc_skip
              | apply wc_block
              | (apply wc_exit; try simp only [thenE, inBlockE, bodyQ, ↓reduceIte, Nat.reduceEqDiff])
              | (apply wc_ret; try simp only [thenE, inBlockE, bodyQ])
              | (apply wr_nil; try simp only [thenE, inBlockE, bodyQ])
              | (apply wr_skip; exact rfl))
        exact ⟨rfl, hF, hS⟩
    apply ch_step
    focus
      intro w' hS
      obtain ⟨hF, hS⟩ := hS
      refine wr_call (vs := [.int .i64 num', S s']) rfl (rtext_ca num' s' hnum' hs _) rfl ?_
      rintro v w'' ⟨rfl, hk''⟩
      apply wr_nil
      exact ⟨rfl, hk''.heap hF (fun h => h), hS.trans hk''⟩
    repeat
      apply ch_step
      focus
        intro w' hS
        obtain ⟨hF, hS⟩ := hS
        repeat (first
              | (apply wr_move; exact rfl; with_reducible (conv => enter [6, 3]; whnf))
              | (apply wr_assign; exact rfl; with_reducible (conv => enter [6, 3]; whnf))
              | apply wr_end
              | apply wc_seq
              | apply wc_region
              | (apply wr_fieldAddr; exact rfl; exact rfl)
              | (apply wr_load; exact rfl; exact rfl; exact rfl; (first | with_reducible assumption | exact heap_alloc_same _ _ | ((repeat (first | refine (heap_alloc_ne _ _ (by (first | omega | (simp only [World.size_alloc, World.putObj_size, ne_eq]; omega)))).trans ?_ | refine (heap_put_ne _ _ (by (first | omega | (simp only [World.size_alloc, World.putObj_size, ne_eq]; omega)))).trans ?_)); (first | with_reducible assumption | exact heap_alloc_same _ _ | exact World.putObj_heap_same (by (first | omega | (simp only [World.size_alloc, World.putObj_size, ne_eq]; omega)))))); exact rfl; conv => enter [6, 3]; whnf)
              | (apply wr_cmp; exact rfl; exact rfl; exact rfl; (first | exact cmp_lt_t (by omega) | exact cmp_lt_f (by omega) | exact cmp_eq_t (by omega) | exact cmp_eq_f (by omega) | exact cmp_ne_t (by omega) | exact cmp_ne_f (by omega) | exact cmp_le_t (by omega) | exact cmp_le_f (by omega) | exact cmp_gt_t (by omega) | exact cmp_gt_f (by omega) | exact cmp_ge_t (by omega) | exact cmp_ge_f (by omega) | exact cmp_lt _ _ | exact cmp_le _ _ | exact cmp_gt _ _ | exact cmp_ge _ _ | exact cmp_eq _ _ | exact cmp_ne _ _))
              | (apply wr_pick (t := true); exact rfl; exact rfl; with_reducible (conv => enter [6, 3]; whnf))
              | (apply wr_pick (t := false); exact rfl; exact rfl; with_reducible (conv => enter [6, 3]; whnf))
              | (apply wr_add; exact rfl; exact rfl; exact rfl; (first | exact w_i64 (by omega) | exact w_u64 (by omega) | exact w_u8 (by omega) | exact w_u16 (by omega) | exact w_i32 (by omega) | exact w_u32 (by omega) | with_reducible assumption | rfl))
              | (apply wr_sub; exact rfl; exact rfl; exact rfl; (first | exact w_i64 (by omega) | exact w_u64 (by omega) | exact w_u8 (by omega) | exact w_u16 (by omega) | exact w_i32 (by omega) | exact w_u32 (by omega) | with_reducible assumption | rfl))
              | (apply wr_mul; exact rfl; exact rfl; exact rfl; (first | exact w_i64 (by omega) | exact w_u64 (by omega) | exact w_u8 (by omega) | exact w_u16 (by omega) | exact w_i32 (by omega) | exact w_u32 (by omega) | with_reducible assumption | rfl))
              | (apply wr_conv; exact rfl; exact rfl; (first | exact w_i64 (by omega) | exact w_u64 (by omega) | exact w_u8 (by omega) | exact w_u16 (by omega) | exact w_i32 (by omega) | exact w_u32 (by omega) | with_reducible assumption | rfl))
              | (apply wr_not; exact rfl; exact rfl)
              | (apply wr_extract; exact rfl; exact rfl; exact rfl; with_reducible (conv => enter [6, 3]; whnf))
              | (apply wr_len_str; exact rfl; exact rfl)
              | (apply wr_len_slice; exact rfl; exact rfl)
              | (apply wr_store; exact rfl; exact rfl; exact rfl; (first | exact rfl | with_reducible assumption); (first | with_reducible assumption | exact heap_alloc_same _ _ | ((repeat (first | refine (heap_alloc_ne _ _ (by (first | omega | (simp only [World.size_alloc, World.putObj_size, ne_eq]; omega)))).trans ?_ | refine (heap_put_ne _ _ (by (first | omega | (simp only [World.size_alloc, World.putObj_size, ne_eq]; omega)))).trans ?_)); (first | with_reducible assumption | exact heap_alloc_same _ _ | exact World.putObj_heap_same (by (first | omega | (simp only [World.size_alloc, World.putObj_size, ne_eq]; omega)))))); exact rfl)
              | (apply wr_box; exact rfl; exact rfl)
              | (apply wr_alloc; exact rfl)
              | (apply wr_cat; exact rfl; exact rfl; exact rfl; (first | omega | (simp only [List.length_append]; omega)))
              | (apply wr_streqc; exact rfl; exact rfl; exact rfl; (first | exact decide_eq_true (by with_reducible assumption) | exact decide_eq_false (by with_reducible assumption) | exact decide_eq_true rfl | exact rfl))
              | (apply wr_strnec; exact rfl; exact rfl; exact rfl; (first | exact decide_eq_true (by with_reducible assumption) | exact decide_eq_false (by with_reducible assumption) | exact decide_eq_true rfl | exact rfl); with_reducible (conv => enter [6, 3]; whnf))
              | (apply wr_bits; exact rfl; (focus (simp; done)); exact rfl; exact rfl; assumption)
              | (apply wr_eqnil_t; exact rfl; exact rfl)
              | (apply wr_eqnil_f; exact rfl; exact rfl)
              | (apply wr_nenil_f; exact rfl; exact rfl)
              | (apply wr_nenil_t; exact rfl; exact rfl)
              | (apply wc_true; exact rfl)
              | (apply wc_false; exact rfl)
              | apply wc_skip
              | apply wc_block
              | (apply wc_exit; try simp only [thenE, inBlockE, bodyQ, ↓reduceIte, Nat.reduceEqDiff])
              | (apply wc_ret; try simp only [thenE, inBlockE, bodyQ])
              | (apply wr_nil; try simp only [thenE, inBlockE, bodyQ])
              | (apply wr_skip; exact rfl))
        exact ⟨rfl, hF, hS⟩
    refine ch_nil ?_
    intro w' hS
    obtain ⟨hF, hS⟩ := hS
    repeat (first
          | (apply wr_move; exact rfl; with_reducible (conv => enter [6, 3]; whnf))
          | (apply wr_assign; exact rfl; with_reducible (conv => enter [6, 3]; whnf))
          | apply wr_end
          | apply wc_seq
          | apply wc_region
          | (apply wr_fieldAddr; exact rfl; exact rfl)
          | (apply wr_load; exact rfl; exact rfl; exact rfl; (first | with_reducible assumption | exact heap_alloc_same _ _ | ((repeat (first | refine (heap_alloc_ne _ _ (by (first | omega | (simp only [World.size_alloc, World.putObj_size, ne_eq]; omega)))).trans ?_ | refine (heap_put_ne _ _ (by (first | omega | (simp only [World.size_alloc, World.putObj_size, ne_eq]; omega)))).trans ?_)); (first | with_reducible assumption | exact heap_alloc_same _ _ | exact World.putObj_heap_same (by (first | omega | (simp only [World.size_alloc, World.putObj_size, ne_eq]; omega)))))); exact rfl; conv => enter [6, 3]; whnf)
          | (apply wr_cmp; exact rfl; exact rfl; exact rfl; (first | exact cmp_lt_t (by omega) | exact cmp_lt_f (by omega) | exact cmp_eq_t (by omega) | exact cmp_eq_f (by omega) | exact cmp_ne_t (by omega) | exact cmp_ne_f (by omega) | exact cmp_le_t (by omega) | exact cmp_le_f (by omega) | exact cmp_gt_t (by omega) | exact cmp_gt_f (by omega) | exact cmp_ge_t (by omega) | exact cmp_ge_f (by omega) | exact cmp_lt _ _ | exact cmp_le _ _ | exact cmp_gt _ _ | exact cmp_ge _ _ | exact cmp_eq _ _ | exact cmp_ne _ _))
          | (apply wr_pick (t := true); exact rfl; exact rfl; with_reducible (conv => enter [6, 3]; whnf))
          | (apply wr_pick (t := false); exact rfl; exact rfl; with_reducible (conv => enter [6, 3]; whnf))
          | (apply wr_add; exact rfl; exact rfl; exact rfl; (first | exact w_i64 (by omega) | exact w_u64 (by omega) | exact w_u8 (by omega) | exact w_u16 (by omega) | exact w_i32 (by omega) | exact w_u32 (by omega) | with_reducible assumption | rfl))
          | (apply wr_sub; exact rfl; exact rfl; exact rfl; (first | exact w_i64 (by omega) | exact w_u64 (by omega) | exact w_u8 (by omega) | exact w_u16 (by omega) | exact w_i32 (by omega) | exact w_u32 (by omega) | with_reducible assumption | rfl))
          | (apply wr_mul; exact rfl; exact rfl; exact rfl; (first | exact w_i64 (by omega) | exact w_u64 (by omega) | exact w_u8 (by omega) | exact w_u16 (by omega) | exact w_i32 (by omega) | exact w_u32 (by omega) | with_reducible assumption | rfl))
          | (apply wr_conv; exact rfl; exact rfl; (first | exact w_i64 (by omega) | exact w_u64 (by omega) | exact w_u8 (by omega) | exact w_u16 (by omega) | exact w_i32 (by omega) | exact w_u32 (by omega) | with_reducible assumption | rfl))
          | (apply wr_not; exact rfl; exact rfl)
          | (apply wr_extract; exact rfl; exact rfl; exact rfl; with_reducible (conv => enter [6, 3]; whnf))
          | (apply wr_len_str; exact rfl; exact rfl)
          | (apply wr_len_slice; exact rfl; exact rfl)
          | (apply wr_store; exact rfl; exact rfl; exact rfl; (first | exact rfl | with_reducible assumption); (first | with_reducible assumption | exact heap_alloc_same _ _ | ((repeat (first | refine (heap_alloc_ne _ _ (by (first | omega | (simp only [World.size_alloc, World.putObj_size, ne_eq]; omega)))).trans ?_ | refine (heap_put_ne _ _ (by (first | omega | (simp only [World.size_alloc, World.putObj_size, ne_eq]; omega)))).trans ?_)); (first | with_reducible assumption | exact heap_alloc_same _ _ | exact World.putObj_heap_same (by (first | omega | (simp only [World.size_alloc, World.putObj_size, ne_eq]; omega)))))); exact rfl)
          | (apply wr_box; exact rfl; exact rfl)
          | (apply wr_alloc; exact rfl)
          | (apply wr_cat; exact rfl; exact rfl; exact rfl; (first | omega | (simp only [List.length_append]; omega)))
          | (apply wr_streqc; exact rfl; exact rfl; exact rfl; (first | exact decide_eq_true (by with_reducible assumption) | exact decide_eq_false (by with_reducible assumption) | exact decide_eq_true rfl | exact rfl))
          | (apply wr_strnec; exact rfl; exact rfl; exact rfl; (first | exact decide_eq_true (by with_reducible assumption) | exact decide_eq_false (by with_reducible assumption) | exact decide_eq_true rfl | exact rfl); with_reducible (conv => enter [6, 3]; whnf))
          | (apply wr_bits; exact rfl; (focus (simp; done)); exact rfl; exact rfl; assumption)
          | (apply wr_eqnil_t; exact rfl; exact rfl)
          | (apply wr_eqnil_f; exact rfl; exact rfl)
          | (apply wr_nenil_f; exact rfl; exact rfl)
          | (apply wr_nenil_t; exact rfl; exact rfl)
          | (apply wc_true; exact rfl)
          | (apply wc_false; exact rfl)
          | apply wc_skip
          | apply wc_block
          | (apply wc_exit; try simp only [thenE, inBlockE, bodyQ, ↓reduceIte, Nat.reduceEqDiff])
          | (apply wc_ret; try simp only [thenE, inBlockE, bodyQ])
          | (apply wr_nil; try simp only [thenE, inBlockE, bodyQ])
          | (apply wr_skip; exact rfl))
    exact leave1 (v := .bool true) rfl rfl ⟨rfl, hk25.trans hS⟩
end Go.Proofs.YtpilcnkgpgkboaaDoor
