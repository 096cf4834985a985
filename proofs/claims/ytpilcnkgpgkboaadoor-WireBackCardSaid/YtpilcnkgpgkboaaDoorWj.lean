/- norialaw01.examples: it is true. -/
import Derived.Test.YtpilcnkgpgkboaaDoorWi
namespace Go.Proofs.YtpilcnkgpgkboaaDoor
open Go Go.V Go.RowKit
set_option linter.unusedVariables false
set_option linter.unusedSimpArgs false

theorem ex_varint : varint 300 = [172, 2] := by rw [varint_ge (by decide), varint_lt (by decide)]; rfl
theorem numberF_eq {num : Int} {n : Nat} (h : 1 ≤ num ∧ num < 536870912) : numberF num n = varint (num * 8).toNat ++ varint n := by
  unfold numberF
  rw [put_cases (by omega)]; rfl
theorem textF_eq {num : Int} {s : List UInt8} (h : 1 ≤ num ∧ num < 536870912) : textF num s = varint (num * 8 + 2).toNat ++ varint s.length ++ s := by
  unfold textF
  rw [put_cases (by omega), if_neg (by decide), if_neg (by decide), if_neg (by decide), if_pos rfl]; rfl
theorem numberF_no {num : Int} {n : Nat} (h : ¬ (1 ≤ num ∧ num < 536870912)) : numberF num n = [] := by
  unfold numberF putF; rw [if_pos (by simp only; omega)]; rfl
theorem textF_no {num : Int} {s : List UInt8} (h : ¬ (1 ≤ num ∧ num < 536870912)) : textF num s = [] := by
  unfold textF putF; rw [if_pos (by simp only; omega)]; rfl
theorem ex_number : numberF 1 300 = [8, 172, 2] := by
  rw [numberF_eq (by decide), ex_varint, varint_lt (by decide)]; rfl
theorem ex_text : textF 2 [97] = [18, 1, 97] := by
  rw [textF_eq (by decide), varint_lt (by decide), varint_lt (by decide)]; rfl
theorem ex_take1 : takeF [8, 172, 2, 18, 1, 97] = .ok ⟨1, 0, 300, []⟩ [18, 1, 97] := by rfl
theorem ex_take2 : takeF [18, 1, 97] = .ok ⟨2, 2, 0, [97]⟩ [] := by rfl
theorem ex_parse1 : parseF [8, 172, 2, 18, 1, 97] = some [⟨1, 0, 300, []⟩, ⟨2, 2, 0, [97]⟩] := by
  rw [parseF_ok (by decide) ex_take1, parseF_ok (by decide) ex_take2, parseF_nil]; rfl
theorem ex_parse2 : parseF [7] = none := parseF_no (by decide) (.inr (by rfl))
theorem ex_read : readVarint [128, 0, 120] = some (0, 2) := by rfl
set_option maxRecDepth 100000 in
set_option maxHeartbeats 4000000 in
theorem examples_ca {p q : Addr} {w : World} (hg : Glo w p q) : Ca Tryd.prog 11 #[] w fun v w' => v = .bool true ∧ Keeps NoB w w' := by
  refine ca_of_body (args := []) Tryd.func11 rfl (by kernel_rfl) ?_
  repeat first
    | ((first | apply wr_move | apply wr_assign); exact rfl; with_reducible (conv => enter [6, 3]; whnf))
    | (first | apply wr_end | apply wc_seq | apply wc_region | apply wc_skip | apply wc_block)
    | ((first | apply wr_fieldAddr | apply wr_not | apply wr_len_str | apply wr_len_slice | apply wr_box); iterate 2 exact rfl)
    | (apply wr_load; (iterate 3 exact rfl); (focus repeat first | with_reducible assumption | exact heap_alloc_same _ _ | exact World.putObj_heap_same (by first | omega | (simp only [World.size_alloc, World.putObj_size, ne_eq]; omega)) | ((first | refine hAl ?_ ?_ | refine hPu ?_ ?_); focus first | omega | (simp only [World.size_alloc, World.putObj_size, ne_eq]; omega))); exact rfl; conv => enter [6, 3]; whnf)
    | (apply wr_cmp; (iterate 3 exact rfl); (first | exact cmpT (by dsimp only [cmpP]; first | done | omega) | exact cmpF (by dsimp only [cmpN]; first | done | omega) | exact cmp_lt _ _ | exact cmp_le _ _ | exact cmp_gt _ _ | exact cmp_ge _ _ | exact cmp_eq _ _ | exact cmp_ne _ _))
    | (apply wr_pick (t := true); (iterate 2 exact rfl); with_reducible (conv => enter [6, 3]; whnf))
    | (apply wr_pick (t := false); (iterate 2 exact rfl); with_reducible (conv => enter [6, 3]; whnf))
    | ((first | apply wr_add | apply wr_sub | apply wr_mul); (iterate 3 exact rfl); (first | exact w_fit (by dsimp only [kIn]; first | done | omega) | with_reducible assumption | rfl))
    | (apply wr_conv; (iterate 2 exact rfl); (first | exact w_fit (by dsimp only [kIn]; first | done | omega) | with_reducible assumption | rfl))
    | (apply wr_alloc; exact rfl)
    | (apply wr_extract; (iterate 3 exact rfl); with_reducible (conv => enter [6, 3]; whnf))
    | (apply wr_store; (iterate 3 exact rfl); (first | exact rfl | with_reducible assumption); (focus repeat first | with_reducible assumption | exact heap_alloc_same _ _ | exact World.putObj_heap_same (by first | omega | (simp only [World.size_alloc, World.putObj_size, ne_eq]; omega)) | ((first | refine hAl ?_ ?_ | refine hPu ?_ ?_); focus first | omega | (simp only [World.size_alloc, World.putObj_size, ne_eq]; omega))); exact rfl)
    | (apply wr_cat; (iterate 3 exact rfl); (first | omega | (simp only [List.length_append]; omega)))
    | (apply wr_streqc; (iterate 3 exact rfl); (first | exact decide_eq_true (by with_reducible assumption) | exact decide_eq_false (by with_reducible assumption) | exact decide_eq_true rfl | exact rfl))
    | (apply wr_strnec; (iterate 3 exact rfl); (first | exact decide_eq_true (by with_reducible assumption) | exact decide_eq_false (by with_reducible assumption) | exact decide_eq_true rfl | exact rfl); with_reducible (conv => enter [6, 3]; whnf))
    | (apply wr_bits; exact rfl; (focus (simp; done)); (iterate 2 exact rfl); assumption)
    | (apply wr_eqnil_t; iterate 2 exact rfl)
    | (apply wr_eqnil_f; iterate 2 exact rfl)
    | (apply wr_nenil_f; iterate 2 exact rfl)
    | (apply wr_nenil_t; iterate 2 exact rfl)
    | (apply wc_true; exact rfl)
    | (apply wc_false; exact rfl)
    | (apply wc_exit; try simp only [thenE, inBlockE, bodyQ, ↓reduceIte, Nat.reduceEqDiff])
    | ((first | apply wc_ret | apply wr_nil); try simp only [thenE, inBlockE, bodyQ])
    | (apply wr_skip; exact rfl)
  refine wr_call (vs := [S [8, 172, 2, 18, 1, 97]]) rfl (parse_ca [8, 172, 2, 18, 1, 97] (by decide) hg) rfl ?_
  rintro v w1 ⟨hv, hk1⟩
  unfold parseR at hv
  rw [ex_parse1] at hv
  obtain ⟨sl, rfl, ho⟩ := hv
  have hsl := SlR.of_own ho
  have hg1 := hg.keep hk1 (fun i hi h => h)
  repeat first
    | ((first | apply wr_move | apply wr_assign); exact rfl; with_reducible (conv => enter [6, 3]; whnf))
    | (first | apply wr_end | apply wc_seq | apply wc_region | apply wc_skip | apply wc_block)
    | ((first | apply wr_fieldAddr | apply wr_not | apply wr_len_str | apply wr_len_slice | apply wr_box); iterate 2 exact rfl)
    | (apply wr_load; (iterate 3 exact rfl); (focus repeat first | with_reducible assumption | exact heap_alloc_same _ _ | exact World.putObj_heap_same (by first | omega | (simp only [World.size_alloc, World.putObj_size, ne_eq]; omega)) | ((first | refine hAl ?_ ?_ | refine hPu ?_ ?_); focus first | omega | (simp only [World.size_alloc, World.putObj_size, ne_eq]; omega))); exact rfl; conv => enter [6, 3]; whnf)
    | (apply wr_cmp; (iterate 3 exact rfl); (first | exact cmpT (by dsimp only [cmpP]; first | done | omega) | exact cmpF (by dsimp only [cmpN]; first | done | omega) | exact cmp_lt _ _ | exact cmp_le _ _ | exact cmp_gt _ _ | exact cmp_ge _ _ | exact cmp_eq _ _ | exact cmp_ne _ _))
    | (apply wr_pick (t := true); (iterate 2 exact rfl); with_reducible (conv => enter [6, 3]; whnf))
    | (apply wr_pick (t := false); (iterate 2 exact rfl); with_reducible (conv => enter [6, 3]; whnf))
    | ((first | apply wr_add | apply wr_sub | apply wr_mul); (iterate 3 exact rfl); (first | exact w_fit (by dsimp only [kIn]; first | done | omega) | with_reducible assumption | rfl))
    | (apply wr_conv; (iterate 2 exact rfl); (first | exact w_fit (by dsimp only [kIn]; first | done | omega) | with_reducible assumption | rfl))
    | (apply wr_alloc; exact rfl)
    | (apply wr_extract; (iterate 3 exact rfl); with_reducible (conv => enter [6, 3]; whnf))
    | (apply wr_store; (iterate 3 exact rfl); (first | exact rfl | with_reducible assumption); (focus repeat first | with_reducible assumption | exact heap_alloc_same _ _ | exact World.putObj_heap_same (by first | omega | (simp only [World.size_alloc, World.putObj_size, ne_eq]; omega)) | ((first | refine hAl ?_ ?_ | refine hPu ?_ ?_); focus first | omega | (simp only [World.size_alloc, World.putObj_size, ne_eq]; omega))); exact rfl)
    | (apply wr_cat; (iterate 3 exact rfl); (first | omega | (simp only [List.length_append]; omega)))
    | (apply wr_streqc; (iterate 3 exact rfl); (first | exact decide_eq_true (by with_reducible assumption) | exact decide_eq_false (by with_reducible assumption) | exact decide_eq_true rfl | exact rfl))
    | (apply wr_strnec; (iterate 3 exact rfl); (first | exact decide_eq_true (by with_reducible assumption) | exact decide_eq_false (by with_reducible assumption) | exact decide_eq_true rfl | exact rfl); with_reducible (conv => enter [6, 3]; whnf))
    | (apply wr_bits; exact rfl; (focus (simp; done)); (iterate 2 exact rfl); assumption)
    | (apply wr_eqnil_t; iterate 2 exact rfl)
    | (apply wr_eqnil_f; iterate 2 exact rfl)
    | (apply wr_nenil_f; iterate 2 exact rfl)
    | (apply wr_nenil_t; iterate 2 exact rfl)
    | (apply wc_true; exact rfl)
    | (apply wc_false; exact rfl)
    | (apply wc_exit; try simp only [thenE, inBlockE, bodyQ, ↓reduceIte, Nat.reduceEqDiff])
    | ((first | apply wc_ret | apply wr_nil); try simp only [thenE, inBlockE, bodyQ])
    | (apply wr_skip; exact rfl)
  refine wr_call (vs := [S [7]]) rfl (parse_ca [7] (by decide) hg1) rfl ?_
  rintro v w2 ⟨hv, hk2⟩
  unfold parseR at hv
  rw [ex_parse2] at hv
  subst hv
  repeat first
    | ((first | apply wr_move | apply wr_assign); exact rfl; with_reducible (conv => enter [6, 3]; whnf))
    | (first | apply wr_end | apply wc_seq | apply wc_region | apply wc_skip | apply wc_block)
    | ((first | apply wr_fieldAddr | apply wr_not | apply wr_len_str | apply wr_len_slice | apply wr_box); iterate 2 exact rfl)
    | (apply wr_load; (iterate 3 exact rfl); (focus repeat first | with_reducible assumption | exact heap_alloc_same _ _ | exact World.putObj_heap_same (by first | omega | (simp only [World.size_alloc, World.putObj_size, ne_eq]; omega)) | ((first | refine hAl ?_ ?_ | refine hPu ?_ ?_); focus first | omega | (simp only [World.size_alloc, World.putObj_size, ne_eq]; omega))); exact rfl; conv => enter [6, 3]; whnf)
    | (apply wr_cmp; (iterate 3 exact rfl); (first | exact cmpT (by dsimp only [cmpP]; first | done | omega) | exact cmpF (by dsimp only [cmpN]; first | done | omega) | exact cmp_lt _ _ | exact cmp_le _ _ | exact cmp_gt _ _ | exact cmp_ge _ _ | exact cmp_eq _ _ | exact cmp_ne _ _))
    | (apply wr_pick (t := true); (iterate 2 exact rfl); with_reducible (conv => enter [6, 3]; whnf))
    | (apply wr_pick (t := false); (iterate 2 exact rfl); with_reducible (conv => enter [6, 3]; whnf))
    | ((first | apply wr_add | apply wr_sub | apply wr_mul); (iterate 3 exact rfl); (first | exact w_fit (by dsimp only [kIn]; first | done | omega) | with_reducible assumption | rfl))
    | (apply wr_conv; (iterate 2 exact rfl); (first | exact w_fit (by dsimp only [kIn]; first | done | omega) | with_reducible assumption | rfl))
    | (apply wr_alloc; exact rfl)
    | (apply wr_extract; (iterate 3 exact rfl); with_reducible (conv => enter [6, 3]; whnf))
    | (apply wr_store; (iterate 3 exact rfl); (first | exact rfl | with_reducible assumption); (focus repeat first | with_reducible assumption | exact heap_alloc_same _ _ | exact World.putObj_heap_same (by first | omega | (simp only [World.size_alloc, World.putObj_size, ne_eq]; omega)) | ((first | refine hAl ?_ ?_ | refine hPu ?_ ?_); focus first | omega | (simp only [World.size_alloc, World.putObj_size, ne_eq]; omega))); exact rfl)
    | (apply wr_cat; (iterate 3 exact rfl); (first | omega | (simp only [List.length_append]; omega)))
    | (apply wr_streqc; (iterate 3 exact rfl); (first | exact decide_eq_true (by with_reducible assumption) | exact decide_eq_false (by with_reducible assumption) | exact decide_eq_true rfl | exact rfl))
    | (apply wr_strnec; (iterate 3 exact rfl); (first | exact decide_eq_true (by with_reducible assumption) | exact decide_eq_false (by with_reducible assumption) | exact decide_eq_true rfl | exact rfl); with_reducible (conv => enter [6, 3]; whnf))
    | (apply wr_bits; exact rfl; (focus (simp; done)); (iterate 2 exact rfl); assumption)
    | (apply wr_eqnil_t; iterate 2 exact rfl)
    | (apply wr_eqnil_f; iterate 2 exact rfl)
    | (apply wr_nenil_f; iterate 2 exact rfl)
    | (apply wr_nenil_t; iterate 2 exact rfl)
    | (apply wc_true; exact rfl)
    | (apply wc_false; exact rfl)
    | (apply wc_exit; try simp only [thenE, inBlockE, bodyQ, ↓reduceIte, Nat.reduceEqDiff])
    | ((first | apply wc_ret | apply wr_nil); try simp only [thenE, inBlockE, bodyQ])
    | (apply wr_skip; exact rfl)
  refine wr_call (vs := [S [128, 0, 120]]) rfl (readVarint_ca [128, 0, 120] _) rfl ?_
  rintro v w2' ⟨rfl, rfl⟩
  rw [ex_read]
  dsimp only [rvV]
  repeat first
    | ((first | apply wr_move | apply wr_assign); exact rfl; with_reducible (conv => enter [6, 3]; whnf))
    | (first | apply wr_end | apply wc_seq | apply wc_region | apply wc_skip | apply wc_block)
    | ((first | apply wr_fieldAddr | apply wr_not | apply wr_len_str | apply wr_len_slice | apply wr_box); iterate 2 exact rfl)
    | (apply wr_load; (iterate 3 exact rfl); (focus repeat first | with_reducible assumption | exact heap_alloc_same _ _ | exact World.putObj_heap_same (by first | omega | (simp only [World.size_alloc, World.putObj_size, ne_eq]; omega)) | ((first | refine hAl ?_ ?_ | refine hPu ?_ ?_); focus first | omega | (simp only [World.size_alloc, World.putObj_size, ne_eq]; omega))); exact rfl; conv => enter [6, 3]; whnf)
    | (apply wr_cmp; (iterate 3 exact rfl); (first | exact cmpT (by dsimp only [cmpP]; first | done | omega) | exact cmpF (by dsimp only [cmpN]; first | done | omega) | exact cmp_lt _ _ | exact cmp_le _ _ | exact cmp_gt _ _ | exact cmp_ge _ _ | exact cmp_eq _ _ | exact cmp_ne _ _))
    | (apply wr_pick (t := true); (iterate 2 exact rfl); with_reducible (conv => enter [6, 3]; whnf))
    | (apply wr_pick (t := false); (iterate 2 exact rfl); with_reducible (conv => enter [6, 3]; whnf))
    | ((first | apply wr_add | apply wr_sub | apply wr_mul); (iterate 3 exact rfl); (first | exact w_fit (by dsimp only [kIn]; first | done | omega) | with_reducible assumption | rfl))
    | (apply wr_conv; (iterate 2 exact rfl); (first | exact w_fit (by dsimp only [kIn]; first | done | omega) | with_reducible assumption | rfl))
    | (apply wr_alloc; exact rfl)
    | (apply wr_extract; (iterate 3 exact rfl); with_reducible (conv => enter [6, 3]; whnf))
    | (apply wr_store; (iterate 3 exact rfl); (first | exact rfl | with_reducible assumption); (focus repeat first | with_reducible assumption | exact heap_alloc_same _ _ | exact World.putObj_heap_same (by first | omega | (simp only [World.size_alloc, World.putObj_size, ne_eq]; omega)) | ((first | refine hAl ?_ ?_ | refine hPu ?_ ?_); focus first | omega | (simp only [World.size_alloc, World.putObj_size, ne_eq]; omega))); exact rfl)
    | (apply wr_cat; (iterate 3 exact rfl); (first | omega | (simp only [List.length_append]; omega)))
    | (apply wr_streqc; (iterate 3 exact rfl); (first | exact decide_eq_true (by with_reducible assumption) | exact decide_eq_false (by with_reducible assumption) | exact decide_eq_true rfl | exact rfl))
    | (apply wr_strnec; (iterate 3 exact rfl); (first | exact decide_eq_true (by with_reducible assumption) | exact decide_eq_false (by with_reducible assumption) | exact decide_eq_true rfl | exact rfl); with_reducible (conv => enter [6, 3]; whnf))
    | (apply wr_bits; exact rfl; (focus (simp; done)); (iterate 2 exact rfl); assumption)
    | (apply wr_eqnil_t; iterate 2 exact rfl)
    | (apply wr_eqnil_f; iterate 2 exact rfl)
    | (apply wr_nenil_f; iterate 2 exact rfl)
    | (apply wr_nenil_t; iterate 2 exact rfl)
    | (apply wc_true; exact rfl)
    | (apply wc_false; exact rfl)
    | (apply wc_exit; try simp only [thenE, inBlockE, bodyQ, ↓reduceIte, Nat.reduceEqDiff])
    | ((first | apply wc_ret | apply wr_nil); try simp only [thenE, inBlockE, bodyQ])
    | (apply wr_skip; exact rfl)
  refine wr_call (vs := [.int .u64 300]) rfl (varint_ca 300 (by decide) _) rfl ?_
  rintro v w3 ⟨rfl, hk3⟩
  rw [ex_varint]
  repeat first
    | ((first | apply wr_move | apply wr_assign); exact rfl; with_reducible (conv => enter [6, 3]; whnf))
    | (first | apply wr_end | apply wc_seq | apply wc_region | apply wc_skip | apply wc_block)
    | ((first | apply wr_fieldAddr | apply wr_not | apply wr_len_str | apply wr_len_slice | apply wr_box); iterate 2 exact rfl)
    | (apply wr_load; (iterate 3 exact rfl); (focus repeat first | with_reducible assumption | exact heap_alloc_same _ _ | exact World.putObj_heap_same (by first | omega | (simp only [World.size_alloc, World.putObj_size, ne_eq]; omega)) | ((first | refine hAl ?_ ?_ | refine hPu ?_ ?_); focus first | omega | (simp only [World.size_alloc, World.putObj_size, ne_eq]; omega))); exact rfl; conv => enter [6, 3]; whnf)
    | (apply wr_cmp; (iterate 3 exact rfl); (first | exact cmpT (by dsimp only [cmpP]; first | done | omega) | exact cmpF (by dsimp only [cmpN]; first | done | omega) | exact cmp_lt _ _ | exact cmp_le _ _ | exact cmp_gt _ _ | exact cmp_ge _ _ | exact cmp_eq _ _ | exact cmp_ne _ _))
    | (apply wr_pick (t := true); (iterate 2 exact rfl); with_reducible (conv => enter [6, 3]; whnf))
    | (apply wr_pick (t := false); (iterate 2 exact rfl); with_reducible (conv => enter [6, 3]; whnf))
    | ((first | apply wr_add | apply wr_sub | apply wr_mul); (iterate 3 exact rfl); (first | exact w_fit (by dsimp only [kIn]; first | done | omega) | with_reducible assumption | rfl))
    | (apply wr_conv; (iterate 2 exact rfl); (first | exact w_fit (by dsimp only [kIn]; first | done | omega) | with_reducible assumption | rfl))
    | (apply wr_alloc; exact rfl)
    | (apply wr_extract; (iterate 3 exact rfl); with_reducible (conv => enter [6, 3]; whnf))
    | (apply wr_store; (iterate 3 exact rfl); (first | exact rfl | with_reducible assumption); (focus repeat first | with_reducible assumption | exact heap_alloc_same _ _ | exact World.putObj_heap_same (by first | omega | (simp only [World.size_alloc, World.putObj_size, ne_eq]; omega)) | ((first | refine hAl ?_ ?_ | refine hPu ?_ ?_); focus first | omega | (simp only [World.size_alloc, World.putObj_size, ne_eq]; omega))); exact rfl)
    | (apply wr_cat; (iterate 3 exact rfl); (first | omega | (simp only [List.length_append]; omega)))
    | (apply wr_streqc; (iterate 3 exact rfl); (first | exact decide_eq_true (by with_reducible assumption) | exact decide_eq_false (by with_reducible assumption) | exact decide_eq_true rfl | exact rfl))
    | (apply wr_strnec; (iterate 3 exact rfl); (first | exact decide_eq_true (by with_reducible assumption) | exact decide_eq_false (by with_reducible assumption) | exact decide_eq_true rfl | exact rfl); with_reducible (conv => enter [6, 3]; whnf))
    | (apply wr_bits; exact rfl; (focus (simp; done)); (iterate 2 exact rfl); assumption)
    | (apply wr_eqnil_t; iterate 2 exact rfl)
    | (apply wr_eqnil_f; iterate 2 exact rfl)
    | (apply wr_nenil_f; iterate 2 exact rfl)
    | (apply wr_nenil_t; iterate 2 exact rfl)
    | (apply wc_true; exact rfl)
    | (apply wc_false; exact rfl)
    | (apply wc_exit; try simp only [thenE, inBlockE, bodyQ, ↓reduceIte, Nat.reduceEqDiff])
    | ((first | apply wc_ret | apply wr_nil); try simp only [thenE, inBlockE, bodyQ])
    | (apply wr_skip; exact rfl)
  refine wr_call (vs := [.int .i64 1, .int .u64 300]) rfl (number_ca 1 300 (by decide) (by decide) _) rfl ?_
  rintro v w4 ⟨rfl, hk4⟩
  rw [ex_number]
  repeat first
    | ((first | apply wr_move | apply wr_assign); exact rfl; with_reducible (conv => enter [6, 3]; whnf))
    | (first | apply wr_end | apply wc_seq | apply wc_region | apply wc_skip | apply wc_block)
    | ((first | apply wr_fieldAddr | apply wr_not | apply wr_len_str | apply wr_len_slice | apply wr_box); iterate 2 exact rfl)
    | (apply wr_load; (iterate 3 exact rfl); (focus repeat first | with_reducible assumption | exact heap_alloc_same _ _ | exact World.putObj_heap_same (by first | omega | (simp only [World.size_alloc, World.putObj_size, ne_eq]; omega)) | ((first | refine hAl ?_ ?_ | refine hPu ?_ ?_); focus first | omega | (simp only [World.size_alloc, World.putObj_size, ne_eq]; omega))); exact rfl; conv => enter [6, 3]; whnf)
    | (apply wr_cmp; (iterate 3 exact rfl); (first | exact cmpT (by dsimp only [cmpP]; first | done | omega) | exact cmpF (by dsimp only [cmpN]; first | done | omega) | exact cmp_lt _ _ | exact cmp_le _ _ | exact cmp_gt _ _ | exact cmp_ge _ _ | exact cmp_eq _ _ | exact cmp_ne _ _))
    | (apply wr_pick (t := true); (iterate 2 exact rfl); with_reducible (conv => enter [6, 3]; whnf))
    | (apply wr_pick (t := false); (iterate 2 exact rfl); with_reducible (conv => enter [6, 3]; whnf))
    | ((first | apply wr_add | apply wr_sub | apply wr_mul); (iterate 3 exact rfl); (first | exact w_fit (by dsimp only [kIn]; first | done | omega) | with_reducible assumption | rfl))
    | (apply wr_conv; (iterate 2 exact rfl); (first | exact w_fit (by dsimp only [kIn]; first | done | omega) | with_reducible assumption | rfl))
    | (apply wr_alloc; exact rfl)
    | (apply wr_extract; (iterate 3 exact rfl); with_reducible (conv => enter [6, 3]; whnf))
    | (apply wr_store; (iterate 3 exact rfl); (first | exact rfl | with_reducible assumption); (focus repeat first | with_reducible assumption | exact heap_alloc_same _ _ | exact World.putObj_heap_same (by first | omega | (simp only [World.size_alloc, World.putObj_size, ne_eq]; omega)) | ((first | refine hAl ?_ ?_ | refine hPu ?_ ?_); focus first | omega | (simp only [World.size_alloc, World.putObj_size, ne_eq]; omega))); exact rfl)
    | (apply wr_cat; (iterate 3 exact rfl); (first | omega | (simp only [List.length_append]; omega)))
    | (apply wr_streqc; (iterate 3 exact rfl); (first | exact decide_eq_true (by with_reducible assumption) | exact decide_eq_false (by with_reducible assumption) | exact decide_eq_true rfl | exact rfl))
    | (apply wr_strnec; (iterate 3 exact rfl); (first | exact decide_eq_true (by with_reducible assumption) | exact decide_eq_false (by with_reducible assumption) | exact decide_eq_true rfl | exact rfl); with_reducible (conv => enter [6, 3]; whnf))
    | (apply wr_bits; exact rfl; (focus (simp; done)); (iterate 2 exact rfl); assumption)
    | (apply wr_eqnil_t; iterate 2 exact rfl)
    | (apply wr_eqnil_f; iterate 2 exact rfl)
    | (apply wr_nenil_f; iterate 2 exact rfl)
    | (apply wr_nenil_t; iterate 2 exact rfl)
    | (apply wc_true; exact rfl)
    | (apply wc_false; exact rfl)
    | (apply wc_exit; try simp only [thenE, inBlockE, bodyQ, ↓reduceIte, Nat.reduceEqDiff])
    | ((first | apply wc_ret | apply wr_nil); try simp only [thenE, inBlockE, bodyQ])
    | (apply wr_skip; exact rfl)
  refine wr_call (vs := [.int .i64 2, S [97]]) rfl (text_ca 2 [97] (by decide) (by decide) _) rfl ?_
  rintro v w5 ⟨rfl, hk5⟩
  rw [ex_text]
  have hk15 := hk2.trans (hk3.trans (hk4.trans hk5))
  have hsl5 := hsl.keep hk15 (fun _ _ h => h)
  obtain ⟨a, c, rfl, hc, hat⟩ := hsl5.shape
  obtain ⟨b, o, rfl, cur, e, fr, hb, hr⟩ := hat (by decide)
  repeat first
    | ((first | apply wr_move | apply wr_assign); exact rfl; with_reducible (conv => enter [6, 3]; whnf))
    | (first | apply wr_end | apply wc_seq | apply wc_region | apply wc_skip | apply wc_block)
    | ((first | apply wr_fieldAddr | apply wr_not | apply wr_len_str | apply wr_len_slice | apply wr_box); iterate 2 exact rfl)
    | (apply wr_load; (iterate 3 exact rfl); (focus repeat first | with_reducible assumption | exact heap_alloc_same _ _ | exact World.putObj_heap_same (by first | omega | (simp only [World.size_alloc, World.putObj_size, ne_eq]; omega)) | ((first | refine hAl ?_ ?_ | refine hPu ?_ ?_); focus first | omega | (simp only [World.size_alloc, World.putObj_size, ne_eq]; omega))); exact rfl; conv => enter [6, 3]; whnf)
    | (apply wr_cmp; (iterate 3 exact rfl); (first | exact cmpT (by dsimp only [cmpP]; first | done | omega) | exact cmpF (by dsimp only [cmpN]; first | done | omega) | exact cmp_lt _ _ | exact cmp_le _ _ | exact cmp_gt _ _ | exact cmp_ge _ _ | exact cmp_eq _ _ | exact cmp_ne _ _))
    | (apply wr_pick (t := true); (iterate 2 exact rfl); with_reducible (conv => enter [6, 3]; whnf))
    | (apply wr_pick (t := false); (iterate 2 exact rfl); with_reducible (conv => enter [6, 3]; whnf))
    | ((first | apply wr_add | apply wr_sub | apply wr_mul); (iterate 3 exact rfl); (first | exact w_fit (by dsimp only [kIn]; first | done | omega) | with_reducible assumption | rfl))
    | (apply wr_conv; (iterate 2 exact rfl); (first | exact w_fit (by dsimp only [kIn]; first | done | omega) | with_reducible assumption | rfl))
    | (apply wr_alloc; exact rfl)
    | (apply wr_extract; (iterate 3 exact rfl); with_reducible (conv => enter [6, 3]; whnf))
    | (apply wr_store; (iterate 3 exact rfl); (first | exact rfl | with_reducible assumption); (focus repeat first | with_reducible assumption | exact heap_alloc_same _ _ | exact World.putObj_heap_same (by first | omega | (simp only [World.size_alloc, World.putObj_size, ne_eq]; omega)) | ((first | refine hAl ?_ ?_ | refine hPu ?_ ?_); focus first | omega | (simp only [World.size_alloc, World.putObj_size, ne_eq]; omega))); exact rfl)
    | (apply wr_cat; (iterate 3 exact rfl); (first | omega | (simp only [List.length_append]; omega)))
    | (apply wr_streqc; (iterate 3 exact rfl); (first | exact decide_eq_true (by with_reducible assumption) | exact decide_eq_false (by with_reducible assumption) | exact decide_eq_true rfl | exact rfl))
    | (apply wr_strnec; (iterate 3 exact rfl); (first | exact decide_eq_true (by with_reducible assumption) | exact decide_eq_false (by with_reducible assumption) | exact decide_eq_true rfl | exact rfl); with_reducible (conv => enter [6, 3]; whnf))
    | (apply wr_bits; exact rfl; (focus (simp; done)); (iterate 2 exact rfl); assumption)
    | (apply wr_eqnil_t; iterate 2 exact rfl)
    | (apply wr_eqnil_f; iterate 2 exact rfl)
    | (apply wr_nenil_f; iterate 2 exact rfl)
    | (apply wr_nenil_t; iterate 2 exact rfl)
    | (apply wc_true; exact rfl)
    | (apply wc_false; exact rfl)
    | (apply wc_exit; try simp only [thenE, inBlockE, bodyQ, ↓reduceIte, Nat.reduceEqDiff])
    | ((first | apply wc_ret | apply wr_nil); try simp only [thenE, inBlockE, bodyQ])
    | (apply wr_skip; exact rfl)
  refine wr_indexAddr (i := 0) rfl rfl rfl (by decide) ?_
  refine wr_fieldAddr rfl rfl ?_
  refine wr_load (v := .int .u64 300) rfl rfl rfl hb (cell_elem (g := WF.cs) (k := 4) (i := 0) (j := 2) WF.cs_len hr (by decide) rfl rfl) ?_
  repeat first
    | ((first | apply wr_move | apply wr_assign); exact rfl; with_reducible (conv => enter [6, 3]; whnf))
    | (first | apply wr_end | apply wc_seq | apply wc_region | apply wc_skip | apply wc_block)
    | ((first | apply wr_fieldAddr | apply wr_not | apply wr_len_str | apply wr_len_slice | apply wr_box); iterate 2 exact rfl)
    | (apply wr_load; (iterate 3 exact rfl); (focus repeat first | with_reducible assumption | exact heap_alloc_same _ _ | exact World.putObj_heap_same (by first | omega | (simp only [World.size_alloc, World.putObj_size, ne_eq]; omega)) | ((first | refine hAl ?_ ?_ | refine hPu ?_ ?_); focus first | omega | (simp only [World.size_alloc, World.putObj_size, ne_eq]; omega))); exact rfl; conv => enter [6, 3]; whnf)
    | (apply wr_cmp; (iterate 3 exact rfl); (first | exact cmpT (by dsimp only [cmpP]; first | done | omega) | exact cmpF (by dsimp only [cmpN]; first | done | omega) | exact cmp_lt _ _ | exact cmp_le _ _ | exact cmp_gt _ _ | exact cmp_ge _ _ | exact cmp_eq _ _ | exact cmp_ne _ _))
    | (apply wr_pick (t := true); (iterate 2 exact rfl); with_reducible (conv => enter [6, 3]; whnf))
    | (apply wr_pick (t := false); (iterate 2 exact rfl); with_reducible (conv => enter [6, 3]; whnf))
    | ((first | apply wr_add | apply wr_sub | apply wr_mul); (iterate 3 exact rfl); (first | exact w_fit (by dsimp only [kIn]; first | done | omega) | with_reducible assumption | rfl))
    | (apply wr_conv; (iterate 2 exact rfl); (first | exact w_fit (by dsimp only [kIn]; first | done | omega) | with_reducible assumption | rfl))
    | (apply wr_alloc; exact rfl)
    | (apply wr_extract; (iterate 3 exact rfl); with_reducible (conv => enter [6, 3]; whnf))
    | (apply wr_store; (iterate 3 exact rfl); (first | exact rfl | with_reducible assumption); (focus repeat first | with_reducible assumption | exact heap_alloc_same _ _ | exact World.putObj_heap_same (by first | omega | (simp only [World.size_alloc, World.putObj_size, ne_eq]; omega)) | ((first | refine hAl ?_ ?_ | refine hPu ?_ ?_); focus first | omega | (simp only [World.size_alloc, World.putObj_size, ne_eq]; omega))); exact rfl)
    | (apply wr_cat; (iterate 3 exact rfl); (first | omega | (simp only [List.length_append]; omega)))
    | (apply wr_streqc; (iterate 3 exact rfl); (first | exact decide_eq_true (by with_reducible assumption) | exact decide_eq_false (by with_reducible assumption) | exact decide_eq_true rfl | exact rfl))
    | (apply wr_strnec; (iterate 3 exact rfl); (first | exact decide_eq_true (by with_reducible assumption) | exact decide_eq_false (by with_reducible assumption) | exact decide_eq_true rfl | exact rfl); with_reducible (conv => enter [6, 3]; whnf))
    | (apply wr_bits; exact rfl; (focus (simp; done)); (iterate 2 exact rfl); assumption)
    | (apply wr_eqnil_t; iterate 2 exact rfl)
    | (apply wr_eqnil_f; iterate 2 exact rfl)
    | (apply wr_nenil_f; iterate 2 exact rfl)
    | (apply wr_nenil_t; iterate 2 exact rfl)
    | (apply wc_true; exact rfl)
    | (apply wc_false; exact rfl)
    | (apply wc_exit; try simp only [thenE, inBlockE, bodyQ, ↓reduceIte, Nat.reduceEqDiff])
    | ((first | apply wc_ret | apply wr_nil); try simp only [thenE, inBlockE, bodyQ])
    | (apply wr_skip; exact rfl)
  refine wr_indexAddr (i := 1) rfl rfl rfl (by decide) ?_
  refine wr_fieldAddr rfl rfl ?_
  refine wr_load (v := S [97]) rfl rfl rfl hb (cell_elem (g := WF.cs) (k := 4) (i := 1) (j := 3) WF.cs_len hr (by decide) rfl rfl) ?_
  repeat first
    | ((first | apply wr_move | apply wr_assign); exact rfl; with_reducible (conv => enter [6, 3]; whnf))
    | (first | apply wr_end | apply wc_seq | apply wc_region | apply wc_skip | apply wc_block)
    | ((first | apply wr_fieldAddr | apply wr_not | apply wr_len_str | apply wr_len_slice | apply wr_box); iterate 2 exact rfl)
    | (apply wr_load; (iterate 3 exact rfl); (focus repeat first | with_reducible assumption | exact heap_alloc_same _ _ | exact World.putObj_heap_same (by first | omega | (simp only [World.size_alloc, World.putObj_size, ne_eq]; omega)) | ((first | refine hAl ?_ ?_ | refine hPu ?_ ?_); focus first | omega | (simp only [World.size_alloc, World.putObj_size, ne_eq]; omega))); exact rfl; conv => enter [6, 3]; whnf)
    | (apply wr_cmp; (iterate 3 exact rfl); (first | exact cmpT (by dsimp only [cmpP]; first | done | omega) | exact cmpF (by dsimp only [cmpN]; first | done | omega) | exact cmp_lt _ _ | exact cmp_le _ _ | exact cmp_gt _ _ | exact cmp_ge _ _ | exact cmp_eq _ _ | exact cmp_ne _ _))
    | (apply wr_pick (t := true); (iterate 2 exact rfl); with_reducible (conv => enter [6, 3]; whnf))
    | (apply wr_pick (t := false); (iterate 2 exact rfl); with_reducible (conv => enter [6, 3]; whnf))
    | ((first | apply wr_add | apply wr_sub | apply wr_mul); (iterate 3 exact rfl); (first | exact w_fit (by dsimp only [kIn]; first | done | omega) | with_reducible assumption | rfl))
    | (apply wr_conv; (iterate 2 exact rfl); (first | exact w_fit (by dsimp only [kIn]; first | done | omega) | with_reducible assumption | rfl))
    | (apply wr_alloc; exact rfl)
    | (apply wr_extract; (iterate 3 exact rfl); with_reducible (conv => enter [6, 3]; whnf))
    | (apply wr_store; (iterate 3 exact rfl); (first | exact rfl | with_reducible assumption); (focus repeat first | with_reducible assumption | exact heap_alloc_same _ _ | exact World.putObj_heap_same (by first | omega | (simp only [World.size_alloc, World.putObj_size, ne_eq]; omega)) | ((first | refine hAl ?_ ?_ | refine hPu ?_ ?_); focus first | omega | (simp only [World.size_alloc, World.putObj_size, ne_eq]; omega))); exact rfl)
    | (apply wr_cat; (iterate 3 exact rfl); (first | omega | (simp only [List.length_append]; omega)))
    | (apply wr_streqc; (iterate 3 exact rfl); (first | exact decide_eq_true (by with_reducible assumption) | exact decide_eq_false (by with_reducible assumption) | exact decide_eq_true rfl | exact rfl))
    | (apply wr_strnec; (iterate 3 exact rfl); (first | exact decide_eq_true (by with_reducible assumption) | exact decide_eq_false (by with_reducible assumption) | exact decide_eq_true rfl | exact rfl); with_reducible (conv => enter [6, 3]; whnf))
    | (apply wr_bits; exact rfl; (focus (simp; done)); (iterate 2 exact rfl); assumption)
    | (apply wr_eqnil_t; iterate 2 exact rfl)
    | (apply wr_eqnil_f; iterate 2 exact rfl)
    | (apply wr_nenil_f; iterate 2 exact rfl)
    | (apply wr_nenil_t; iterate 2 exact rfl)
    | (apply wc_true; exact rfl)
    | (apply wc_false; exact rfl)
    | (apply wc_exit; try simp only [thenE, inBlockE, bodyQ, ↓reduceIte, Nat.reduceEqDiff])
    | ((first | apply wc_ret | apply wr_nil); try simp only [thenE, inBlockE, bodyQ])
    | (apply wr_skip; exact rfl)
  exact leave1 (v := .bool true) rfl rfl ⟨rfl, hk1.trans hk15⟩
end Go.Proofs.YtpilcnkgpgkboaaDoor
