/- norialaw01.ref: what it does. -/
import Derived.Test.YtpilcnkgpgkboaaDoorWk
import Derived.Test.YtpilcnkgpgkboaaDoorVC
namespace Go.Proofs.YtpilcnkgpgkboaaDoor
open Go Go.V Go.RowKit
set_option linter.unusedVariables false
set_option linter.unusedSimpArgs false

set_option maxRecDepth 100000 in
set_option maxHeartbeats 2000000 in
theorem ref_ca (l : List WF) (sl : Value) (w : World) (hsl : SlR w 4 sl l.length (FL l)) (hlen : l.length ≤ 1000000000000) :
    Ca Tryd.prog 18 #[sl] w fun v w' => w'.ownsRow w.heap.size 33 4 v l.length (FL l) ∧ Keeps NoB w w' := by
  obtain ⟨a, c, rfl, hc, hat⟩ := hsl.shape
  refine ca_of_body (args := [.slice a l.length c]) Tryd.func18 rfl (by kernel_rfl) ?_
  repeat first
    | ((first | apply wr_move | apply wr_assign); exact rfl; with_reducible (conv => enter [6, 3]; whnf))
    | (first | apply wr_end | apply wc_seq | apply wc_region | apply wc_skip | apply wc_block)
    | ((first | apply wr_fieldAddr | apply wr_not | apply wr_len_str | apply wr_len_slice | apply wr_box); iterate 2 exact rfl)
    | (apply wr_load; (iterate 3 exact rfl); (focus repeat first | with_reducible assumption | exact heap_alloc_same _ _ | exact World.putObj_heap_same (by first | omega | (simp only [World.size_alloc, World.putObj_size, ne_eq]; omega)) | ((first | refine hAl ?_ ?_ | refine hPu ?_ ?_); focus first | omega | (simp only [World.size_alloc, World.putObj_size, ne_eq]; omega))); exact rfl; conv => enter [6, 3]; whnf)
    | (apply wr_cmp; (iterate 3 exact rfl); (first | exact cmpT (by dsimp only [cmpP]; first | done | omega) | exact cmpF (by dsimp only [cmpN]; first | done | omega) | exact cmp_lt _ _ | exact cmp_le _ _ | exact cmp_gt _ _ | exact cmp_ge _ _ | exact cmp_eq _ _ | exact cmp_ne _ _))
    | (apply wr_pick (t := true); (iterate 2 exact rfl); with_reducible (conv => enter [6, 3]; whnf))
    | (apply wr_pick (t := false); (iterate 2 exact rfl); with_reducible (conv => enter [6, 3]; whnf))
    | ((first | apply wr_add | apply wr_sub | apply wr_mul); (iterate 3 exact rfl); (first | exact w_fit (by dsimp only [kIn]; first | done | omega) | with_reducible assumption | rfl))
    | (apply wr_conv; (iterate 2 exact rfl); (first | exact w_fit (by dsimp only [kIn]; first | done | omega) | with_reducible assumption | rfl))
    | (apply wr_alloc; exact rfl)
    | (apply wr_extract; (iterate 3 exact rfl); with_reducible (conv => enter [6, 3]; whnf))
    | (apply wr_store; (iterate 3 exact rfl); (first | exact rfl | with_reducible assumption); (focus repeat first | with_reducible assumption | exact heap_alloc_same _ _ | exact World.putObj_heap_same (by first | omega | (simp only [World.size_alloc, World.putObj_size, ne_eq]; omega)) | ((first | refine hAl ?_ ?_ | refine hPu ?_ ?_); focus first | omega | (simp only [World.size_alloc, World.putObj_size, ne_eq]; omega))); exact rfl)
    | (apply wr_cat; (iterate 3 exact rfl); (first | omega | (simp only [List.length_append]; omega)))
    | (apply wr_streqc; (iterate 3 exact rfl); (first | exact decide_eq_true (by with_reducible assumption) | exact decide_eq_false (by with_reducible assumption) | exact decide_eq_true rfl | exact rfl))
    | (apply wr_strnec; (iterate 3 exact rfl); (first | exact decide_eq_true (by with_reducible assumption) | exact decide_eq_false (by with_reducible assumption) | exact decide_eq_true rfl | exact rfl); with_reducible (conv => enter [6, 3]; whnf))
    | (apply wr_bits; exact rfl; (focus (simp; done)); (iterate 2 exact rfl); assumption)
    | (apply wr_eqnil_t; iterate 2 exact rfl)
    | (apply wr_eqnil_f; iterate 2 exact rfl)
    | (apply wr_nenil_f; iterate 2 exact rfl)
    | (apply wr_nenil_t; iterate 2 exact rfl)
    | (apply wc_true; exact rfl)
    | (apply wc_false; exact rfl)
    | (apply wc_exit; try simp only [thenE, inBlockE, bodyQ, ↓reduceIte, Nat.reduceEqDiff])
    | ((first | apply wc_ret | apply wr_nil); try simp only [thenE, inBlockE, bodyQ])
    | (apply wr_skip; exact rfl)
  refine wc_loopL (α := Nat × Value) (fun x => [(0, .slice a l.length c), (3, x.2), (4, .int .i64 (x.1 : Int))])
    (fun x ds w' => ds = [] ∧ x.1 ≤ l.length ∧ w'.ownsRow w.heap.size 33 4 x.2 (l.take x.1).length (FL (l.take x.1)) ∧ Keeps NoB w w') (fun x => l.length - x.1) (0, .slice none 0 0) ⟨rfl, Nat.zero_le _, ⟨rfl, .inl ⟨rfl, rfl⟩⟩, Keeps.refl _ _⟩ ⟨rfl, rfl, rfl, trivial⟩ ?_
  rintro ⟨i, r⟩ ds f0 w2 ⟨rfl, hi, ho, hk2⟩
  dsimp only at hi ho ⊢
  have htl : (l.take i).length = i := by rw [List.length_take]; omega
  by_cases hlt : i < l.length
  · obtain ⟨b, o, rfl, cur, e, fr, hb, hr⟩ := hat (by omega)
    have hb2 := hk2.heap hb (fun h => h)
    have hsz := hk2.size
    obtain ⟨x, hx⟩ : ∃ x, l[i]? = some x := ⟨l[i], by simp [hlt]⟩
    have htk : l.take (i + 1) = l.take i ++ [x] := by rw [List.take_add_one, hx]; rfl
    obtain ⟨xn, xk, xv, xs⟩ := x
    repeat first
      | ((first | apply wr_move | apply wr_assign); exact rfl; with_reducible (conv => enter [6, 3]; whnf))
      | (first | apply wr_end | apply wc_seq | apply wc_region | apply wc_skip | apply wc_block)
      | ((first | apply wr_fieldAddr | apply wr_not | apply wr_len_str | apply wr_len_slice | apply wr_box); iterate 2 exact rfl)
      | (apply wr_load; (iterate 3 exact rfl); (focus repeat first | with_reducible assumption | exact heap_alloc_same _ _ | exact World.putObj_heap_same (by first | omega | (simp only [World.size_alloc, World.putObj_size, ne_eq]; omega)) | ((first | refine hAl ?_ ?_ | refine hPu ?_ ?_); focus first | omega | (simp only [World.size_alloc, World.putObj_size, ne_eq]; omega))); exact rfl; conv => enter [6, 3]; whnf)
      | (apply wr_cmp; (iterate 3 exact rfl); (first | exact cmpT (by dsimp only [cmpP]; first | done | omega) | exact cmpF (by dsimp only [cmpN]; first | done | omega) | exact cmp_lt _ _ | exact cmp_le _ _ | exact cmp_gt _ _ | exact cmp_ge _ _ | exact cmp_eq _ _ | exact cmp_ne _ _))
      | (apply wr_pick (t := true); (iterate 2 exact rfl); with_reducible (conv => enter [6, 3]; whnf))
      | (apply wr_pick (t := false); (iterate 2 exact rfl); with_reducible (conv => enter [6, 3]; whnf))
      | ((first | apply wr_add | apply wr_sub | apply wr_mul); (iterate 3 exact rfl); (first | exact w_fit (by dsimp only [kIn]; first | done | omega) | with_reducible assumption | rfl))
      | (apply wr_conv; (iterate 2 exact rfl); (first | exact w_fit (by dsimp only [kIn]; first | done | omega) | with_reducible assumption | rfl))
      | (apply wr_alloc; exact rfl)
      | (apply wr_extract; (iterate 3 exact rfl); with_reducible (conv => enter [6, 3]; whnf))
      | (apply wr_store; (iterate 3 exact rfl); (first | exact rfl | with_reducible assumption); (focus repeat first | with_reducible assumption | exact heap_alloc_same _ _ | exact World.putObj_heap_same (by first | omega | (simp only [World.size_alloc, World.putObj_size, ne_eq]; omega)) | ((first | refine hAl ?_ ?_ | refine hPu ?_ ?_); focus first | omega | (simp only [World.size_alloc, World.putObj_size, ne_eq]; omega))); exact rfl)
      | (apply wr_cat; (iterate 3 exact rfl); (first | omega | (simp only [List.length_append]; omega)))
      | (apply wr_streqc; (iterate 3 exact rfl); (first | exact decide_eq_true (by with_reducible assumption) | exact decide_eq_false (by with_reducible assumption) | exact decide_eq_true rfl | exact rfl))
      | (apply wr_strnec; (iterate 3 exact rfl); (first | exact decide_eq_true (by with_reducible assumption) | exact decide_eq_false (by with_reducible assumption) | exact decide_eq_true rfl | exact rfl); with_reducible (conv => enter [6, 3]; whnf))
      | (apply wr_bits; exact rfl; (focus (simp; done)); (iterate 2 exact rfl); assumption)
      | (apply wr_eqnil_t; iterate 2 exact rfl)
      | (apply wr_eqnil_f; iterate 2 exact rfl)
      | (apply wr_nenil_f; iterate 2 exact rfl)
      | (apply wr_nenil_t; iterate 2 exact rfl)
      | (apply wc_true; exact rfl)
      | (apply wc_false; exact rfl)
      | (apply wc_exit; try simp only [thenE, inBlockE, bodyQ, ↓reduceIte, Nat.reduceEqDiff])
      | ((first | apply wc_ret | apply wr_nil); try simp only [thenE, inBlockE, bodyQ])
      | (apply wr_skip; exact rfl)
    refine wc_drawT (l := _) 22 (fun w' => w'.heap[b]? = some (.cells cur e fr)) (by kernel_rfl) (by kernel_rfl) (by kernel_rfl) (by decide) ?_
    apply chR_step
    focus
      intro w' hS
      apply wr_move; exact rfl
      apply wr_nil
      exact ⟨rfl, rfl⟩
    apply chR_step
    focus
      intro w' hS
      apply wr_move; exact rfl
      apply wr_nil
      exact ⟨rfl, rfl⟩
    apply chR_step
    focus
      intro w' hS
      apply wr_move; exact rfl
      apply wr_nil
      exact ⟨rfl, rfl⟩
    apply chR_step
    focus
      intro w' hS
      refine wr_indexAddr (i := i) rfl rfl rfl hlt ?_
      apply wr_nil
      exact ⟨rfl, rfl⟩
    apply chR_step
    focus
      intro w' hS
      refine wr_fieldAddr rfl rfl ?_
      apply wr_nil
      exact ⟨rfl, rfl⟩
    apply chR_step
    focus
      intro w' hS
      refine wr_load (v := .int .i64 xn) rfl rfl rfl hS (cell_elem (g := WF.cs) (k := 4) (n := l.length) (i := i) (j := 0) WF.cs_len hr hlt hx rfl) ?_
      apply wr_nil
      exact ⟨rfl, rfl⟩
    apply chR_step
    focus
      intro w' hS
      apply wr_move; exact rfl
      apply wr_nil
      exact ⟨rfl, rfl⟩
    apply chR_step
    focus
      intro w' hS
      apply wr_move; exact rfl
      apply wr_nil
      exact ⟨rfl, rfl⟩
    apply chR_step
    focus
      intro w' hS
      refine wr_indexAddr (i := i) rfl rfl rfl hlt ?_
      apply wr_nil
      exact ⟨rfl, rfl⟩
    apply chR_step
    focus
      intro w' hS
      refine wr_fieldAddr rfl rfl ?_
      apply wr_nil
      exact ⟨rfl, rfl⟩
    apply chR_step
    focus
      intro w' hS
      refine wr_load (v := .int .i64 xk) rfl rfl rfl hS (cell_elem (g := WF.cs) (k := 4) (n := l.length) (i := i) (j := 1) WF.cs_len hr hlt hx rfl) ?_
      apply wr_nil
      exact ⟨rfl, rfl⟩
    apply chR_step
    focus
      intro w' hS
      apply wr_move; exact rfl
      apply wr_nil
      exact ⟨rfl, rfl⟩
    apply chR_step
    focus
      intro w' hS
      apply wr_move; exact rfl
      apply wr_nil
      exact ⟨rfl, rfl⟩
    apply chR_step
    focus
      intro w' hS
      refine wr_indexAddr (i := i) rfl rfl rfl hlt ?_
      apply wr_nil
      exact ⟨rfl, rfl⟩
    apply chR_step
    focus
      intro w' hS
      refine wr_fieldAddr rfl rfl ?_
      apply wr_nil
      exact ⟨rfl, rfl⟩
    apply chR_step
    focus
      intro w' hS
      refine wr_load (v := .int .u64 (xv : Int)) rfl rfl rfl hS (cell_elem (g := WF.cs) (k := 4) (n := l.length) (i := i) (j := 2) WF.cs_len hr hlt hx rfl) ?_
      apply wr_nil
      exact ⟨rfl, rfl⟩
    apply chR_step
    focus
      intro w' hS
      apply wr_move; exact rfl
      apply wr_nil
      exact ⟨rfl, rfl⟩
    apply chR_step
    focus
      intro w' hS
      apply wr_move; exact rfl
      apply wr_nil
      exact ⟨rfl, rfl⟩
    apply chR_step
    focus
      intro w' hS
      refine wr_indexAddr (i := i) rfl rfl rfl hlt ?_
      apply wr_nil
      exact ⟨rfl, rfl⟩
    apply chR_step
    focus
      intro w' hS
      refine wr_fieldAddr rfl rfl ?_
      apply wr_nil
      exact ⟨rfl, rfl⟩
    apply chR_step
    focus
      intro w' hS
      refine wr_load (v := S xs) rfl rfl rfl hS (cell_elem (g := WF.cs) (k := 4) (n := l.length) (i := i) (j := 3) WF.cs_len hr hlt hx rfl) ?_
      apply wr_nil
      exact ⟨rfl, rfl⟩
    apply chR_step
    focus
      intro w' hS
      refine wr_build (ps := [(0, .int .i64 xn), (1, .int .i64 xk), (2, .int .u64 (xv : Int)), (3, S xs)]) (cs := [.int .i64 xn, .int .i64 xk, .int .u64 (xv : Int), S xs]) rfl rfl rfl rfl ?_
      apply wr_nil
      exact ⟨rfl, rfl⟩
    refine chR_nil ?_
    refine sf_step hb2 ?_
    have hod := own_keep ho (Keeps.refl NoB w2).drew (fun b hb h => h)
    refine wr_buildSlice (vs := [.agg #[.int .i64 xn, .int .i64 xk, .int .u64 (xv : Int), S xs]]) rfl rfl (by intro v hv; simp at hv; subst hv; rfl) rfl (by decide) (by decide) (by decide) ?_
    apply wr_nil
    have hb3 : (w2.drew.alloc (.cells ([(.agg #[.int .i64 xn, .int .i64 xk, .int .u64 (xv : Int), S xs] : Value)].flatMap (fun v => v.cells.toList)).toArray 33)).heap[b]? = some (.cells cur e fr) := (heap_alloc_ne _ _ (Nat.ne_of_lt (lt_of_heap (w := w2.drew) hb2))).trans hb2
    refine sf_step hb3 ?_
    refine wr_append (v := r) (n := (l.take i).length) (m := 1) (news := [.int .i64 xn, .int .i64 xk, .int .u64 (xv : Int), S xs]) rfl rfl (hod.alloc _) rfl (heap_alloc_same _ _) rfl (by intro u hu; simp at hu; rcases hu with rfl | rfl | rfl | rfl <;> rfl) rfl (by decide) (by omega) (by omega) (by simp; omega) ?_
    intro r' w3 ho3 hk3 _
    have hbw := lt_of_heap hb
    have hb4 := hk3.heap hb3 (fun h => by have := (hod.lt b h).1; omega)
    apply wr_nil
    refine sf_step hb4 ?_
    apply wr_assign
    exact rfl
    apply wr_nil
    refine sf_nil ?_
    repeat first
      | ((first | apply wr_move | apply wr_assign); exact rfl; with_reducible (conv => enter [6, 3]; whnf))
      | (first | apply wr_end | apply wc_seq | apply wc_region | apply wc_skip | apply wc_block)
      | ((first | apply wr_fieldAddr | apply wr_not | apply wr_len_str | apply wr_len_slice | apply wr_box); iterate 2 exact rfl)
      | (apply wr_load; (iterate 3 exact rfl); (focus repeat first | with_reducible assumption | exact heap_alloc_same _ _ | exact World.putObj_heap_same (by first | omega | (simp only [World.size_alloc, World.putObj_size, ne_eq]; omega)) | ((first | refine hAl ?_ ?_ | refine hPu ?_ ?_); focus first | omega | (simp only [World.size_alloc, World.putObj_size, ne_eq]; omega))); exact rfl; conv => enter [6, 3]; whnf)
      | (apply wr_cmp; (iterate 3 exact rfl); (first | exact cmpT (by dsimp only [cmpP]; first | done | omega) | exact cmpF (by dsimp only [cmpN]; first | done | omega) | exact cmp_lt _ _ | exact cmp_le _ _ | exact cmp_gt _ _ | exact cmp_ge _ _ | exact cmp_eq _ _ | exact cmp_ne _ _))
      | (apply wr_pick (t := true); (iterate 2 exact rfl); with_reducible (conv => enter [6, 3]; whnf))
      | (apply wr_pick (t := false); (iterate 2 exact rfl); with_reducible (conv => enter [6, 3]; whnf))
      | ((first | apply wr_add | apply wr_sub | apply wr_mul); (iterate 3 exact rfl); (first | exact w_fit (by dsimp only [kIn]; first | done | omega) | with_reducible assumption | rfl))
      | (apply wr_conv; (iterate 2 exact rfl); (first | exact w_fit (by dsimp only [kIn]; first | done | omega) | with_reducible assumption | rfl))
      | (apply wr_alloc; exact rfl)
      | (apply wr_extract; (iterate 3 exact rfl); with_reducible (conv => enter [6, 3]; whnf))
      | (apply wr_store; (iterate 3 exact rfl); (first | exact rfl | with_reducible assumption); (focus repeat first | with_reducible assumption | exact heap_alloc_same _ _ | exact World.putObj_heap_same (by first | omega | (simp only [World.size_alloc, World.putObj_size, ne_eq]; omega)) | ((first | refine hAl ?_ ?_ | refine hPu ?_ ?_); focus first | omega | (simp only [World.size_alloc, World.putObj_size, ne_eq]; omega))); exact rfl)
      | (apply wr_cat; (iterate 3 exact rfl); (first | omega | (simp only [List.length_append]; omega)))
      | (apply wr_streqc; (iterate 3 exact rfl); (first | exact decide_eq_true (by with_reducible assumption) | exact decide_eq_false (by with_reducible assumption) | exact decide_eq_true rfl | exact rfl))
      | (apply wr_strnec; (iterate 3 exact rfl); (first | exact decide_eq_true (by with_reducible assumption) | exact decide_eq_false (by with_reducible assumption) | exact decide_eq_true rfl | exact rfl); with_reducible (conv => enter [6, 3]; whnf))
      | (apply wr_bits; exact rfl; (focus (simp; done)); (iterate 2 exact rfl); assumption)
      | (apply wr_eqnil_t; iterate 2 exact rfl)
      | (apply wr_eqnil_f; iterate 2 exact rfl)
      | (apply wr_nenil_f; iterate 2 exact rfl)
      | (apply wr_nenil_t; iterate 2 exact rfl)
      | (apply wc_true; exact rfl)
      | (apply wc_false; exact rfl)
      | (apply wc_exit; try simp only [thenE, inBlockE, bodyQ, ↓reduceIte, Nat.reduceEqDiff])
      | ((first | apply wc_ret | apply wr_nil); try simp only [thenE, inBlockE, bodyQ])
      | (apply wr_skip; exact rfl)
    refine ⟨(i + 1, r'), by dsimp only; omega, ⟨by trivial, hlt, ?_, ?_⟩, rfl, rfl, by simp, trivial⟩
    · show w3.ownsRow _ _ _ _ (l.take (i + 1)).length (FL (l.take (i + 1)))
      rw [htk, FL_snoc, List.length_append]
      exact ho3
    · exact (hk2.drew.alloc _).trans' hk3 fun j hj h => absurd (ho.lt j h).1 (by omega)
  · have he : i = l.length := by omega
    subst he
    rw [List.take_length] at ho
    repeat first
      | ((first | apply wr_move | apply wr_assign); exact rfl; with_reducible (conv => enter [6, 3]; whnf))
      | (first | apply wr_end | apply wc_seq | apply wc_region | apply wc_skip | apply wc_block)
      | ((first | apply wr_fieldAddr | apply wr_not | apply wr_len_str | apply wr_len_slice | apply wr_box); iterate 2 exact rfl)
      | (apply wr_load; (iterate 3 exact rfl); (focus repeat first | with_reducible assumption | exact heap_alloc_same _ _ | exact World.putObj_heap_same (by first | omega | (simp only [World.size_alloc, World.putObj_size, ne_eq]; omega)) | ((first | refine hAl ?_ ?_ | refine hPu ?_ ?_); focus first | omega | (simp only [World.size_alloc, World.putObj_size, ne_eq]; omega))); exact rfl; conv => enter [6, 3]; whnf)
      | (apply wr_cmp; (iterate 3 exact rfl); (first | exact cmpT (by dsimp only [cmpP]; first | done | omega) | exact cmpF (by dsimp only [cmpN]; first | done | omega) | exact cmp_lt _ _ | exact cmp_le _ _ | exact cmp_gt _ _ | exact cmp_ge _ _ | exact cmp_eq _ _ | exact cmp_ne _ _))
      | (apply wr_pick (t := true); (iterate 2 exact rfl); with_reducible (conv => enter [6, 3]; whnf))
      | (apply wr_pick (t := false); (iterate 2 exact rfl); with_reducible (conv => enter [6, 3]; whnf))
      | ((first | apply wr_add | apply wr_sub | apply wr_mul); (iterate 3 exact rfl); (first | exact w_fit (by dsimp only [kIn]; first | done | omega) | with_reducible assumption | rfl))
      | (apply wr_conv; (iterate 2 exact rfl); (first | exact w_fit (by dsimp only [kIn]; first | done | omega) | with_reducible assumption | rfl))
      | (apply wr_alloc; exact rfl)
      | (apply wr_extract; (iterate 3 exact rfl); with_reducible (conv => enter [6, 3]; whnf))
      | (apply wr_store; (iterate 3 exact rfl); (first | exact rfl | with_reducible assumption); (focus repeat first | with_reducible assumption | exact heap_alloc_same _ _ | exact World.putObj_heap_same (by first | omega | (simp only [World.size_alloc, World.putObj_size, ne_eq]; omega)) | ((first | refine hAl ?_ ?_ | refine hPu ?_ ?_); focus first | omega | (simp only [World.size_alloc, World.putObj_size, ne_eq]; omega))); exact rfl)
      | (apply wr_cat; (iterate 3 exact rfl); (first | omega | (simp only [List.length_append]; omega)))
      | (apply wr_streqc; (iterate 3 exact rfl); (first | exact decide_eq_true (by with_reducible assumption) | exact decide_eq_false (by with_reducible assumption) | exact decide_eq_true rfl | exact rfl))
      | (apply wr_strnec; (iterate 3 exact rfl); (first | exact decide_eq_true (by with_reducible assumption) | exact decide_eq_false (by with_reducible assumption) | exact decide_eq_true rfl | exact rfl); with_reducible (conv => enter [6, 3]; whnf))
      | (apply wr_bits; exact rfl; (focus (simp; done)); (iterate 2 exact rfl); assumption)
      | (apply wr_eqnil_t; iterate 2 exact rfl)
      | (apply wr_eqnil_f; iterate 2 exact rfl)
      | (apply wr_nenil_f; iterate 2 exact rfl)
      | (apply wr_nenil_t; iterate 2 exact rfl)
      | (apply wc_true; exact rfl)
      | (apply wc_false; exact rfl)
      | (apply wc_exit; try simp only [thenE, inBlockE, bodyQ, ↓reduceIte, Nat.reduceEqDiff])
      | ((first | apply wc_ret | apply wr_nil); try simp only [thenE, inBlockE, bodyQ])
      | (apply wr_skip; exact rfl)
    exact leave1 (v := r) rfl rfl ⟨ho, hk2⟩
end Go.Proofs.YtpilcnkgpgkboaaDoor
