/- norialaw01.WireBack: it is true. -/
import Derived.Test.YtpilcnkgpgkboaaDoorPb
import Derived.Test.YtpilcnkgpgkboaaDoorLj
namespace Go.Proofs.YtpilcnkgpgkboaaDoor
open Go Go.V Go.RowKit
set_option linter.unusedVariables false
set_option linter.unusedSimpArgs false

theorem cntF_nil : cntF [] = 0 := by rw [cntF, if_pos rfl]
theorem back_cnt {k : Nat} {a b : Nat} {s : List UInt8} (hk : 1 ≤ k ∧ k ≤ 65536) (ha : a < 18446744073709551616) (hb : b < 18446744073709551616) (hs : s.length < 18446744073709551616) (r : List UInt8) :
    cntF (numberF k a ++ textF k s ++ numberF ((k + 1 : Nat) : Int) b ++ r) = cntF r + 3 := by
  have h1 : (1 : Int) ≤ (k : Int) ∧ (k : Int) < 536870912 := by omega
  have h2 : (1 : Int) ≤ ((k + 1 : Nat) : Int) ∧ ((k + 1 : Nat) : Int) < 536870912 := by omega
  have hne : ∀ (x y : List UInt8), x ≠ [] → x ++ y ≠ [] := fun x y hx h => hx (List.append_eq_nil_iff.1 h).1
  rw [List.append_assoc, List.append_assoc, cntF_ok (hne _ _ (numberF_ne h1)) (takeF_number h1 ha _), cntF_ok (hne _ _ (textF_ne h1)) (takeF_text h1 hs _), cntF_ok (hne _ _ (numberF_ne h2)) (takeF_number h2 hb _)]
theorem cntF_cut {num : Int} {s : List UInt8} {j : Nat} (h : 1 ≤ num ∧ num < 536870912) (hn : s.length < 18446744073709551616) (hj : j < (textF num s).length) : cntF ((textF num s).take j) = 0 := by
  rw [cntF]
  split
  · rfl
  · split
    · rename_i f' r' h'; rw [take_cut h hn hj] at h'; cases h'
    · rfl
set_option maxRecDepth 100000 in
set_option maxHeartbeats 8000000 in
theorem wireBack_ca {p q : Addr} {w : World} (hg : Glo w p q) (a b : Nat) (s t : List UInt8) (num cut : Nat) (ha : a < 18446744073709551616) (hb : b < 18446744073709551616) (hs : s.length ≤ 140737488351232) (ht : t.length ≤ 140737488351232) (hnum : num < 65536) (hcut : cut < 65536) :
    Ca Tryd.prog 9 #[.int .u64 (a : Int), .int .u64 (b : Int), S s, S t, .int .u16 (num : Int), .int .u16 (cut : Int)] w fun v w' => v = .bool true ∧ Keeps NoB w w' := by
  refine ca_of_body (args := [.int .u64 (a : Int), .int .u64 (b : Int), S s, S t, .int .u16 (num : Int), .int .u16 (cut : Int)]) Tryd.func9 rfl (by kernel_rfl) ?_
  obtain ⟨K, hK⟩ : ∃ K, K = 1 + num := ⟨_, rfl⟩
  have hK1 : 1 ≤ K ∧ K ≤ 65536 := by omega
  have hKr : (1 : Int) ≤ (K : Int) ∧ (K : Int) < 536870912 := by omega
  have hKr' : (1 : Int) ≤ ((K + 1 : Nat) : Int) ∧ ((K + 1 : Nat) : Int) < 536870912 := by omega
  have e1 : (1 : Int) + (num : Int) = (K : Int) := by omega
  have e2 : (K : Int) + 1 = ((K + 1 : Nat) : Int) := by omega
  have hn1 := numberF_len K ha
  have hn2 := numberF_len ((K + 1 : Nat) : Int) hb
  have ht1 := textF_len (num := K) (s := s) (by omega)
  have ht2 := textF_len (num := ((K + 1 : Nat) : Int)) (s := t) (by omega)
  have hy0 : ¬ textF ((K + 1 : Nat) : Int) t = [] := textF_ne hKr'
  have hylen : (textF ((K + 1 : Nat) : Int) t).length ≠ 0 := fun h => hy0 (List.eq_nil_of_length_eq_zero h)
  have hpar : parseF (numberF K a ++ textF K s ++ numberF ((K + 1 : Nat) : Int) b ++ textF ((K + 1 : Nat) : Int) t) = some [⟨K, 0, a, []⟩, ⟨K, 2, 0, s⟩, ⟨((K + 1 : Nat) : Int), 0, b, []⟩, ⟨((K + 1 : Nat) : Int), 2, 0, t⟩] := by
    rw [back_parse hK1 ha hb (by omega), ← List.append_nil (textF ((K + 1 : Nat) : Int) t), parse_text hKr' (by omega), parseF_nil]; rfl
  have hjl : cut % (textF ((K + 1 : Nat) : Int) t).length < (textF ((K + 1 : Nat) : Int) t).length := Nat.mod_lt _ (by omega)
  have hcutp : (parseF (numberF K a ++ textF K s ++ numberF ((K + 1 : Nat) : Int) b ++ (textF ((K + 1 : Nat) : Int) t).take (cut % (textF ((K + 1 : Nat) : Int) t).length))).isSome = decide (cut % (textF ((K + 1 : Nat) : Int) t).length = 0) := by
    rw [back_parse hK1 ha hb (by omega)]
    by_cases h0 : cut % (textF ((K + 1 : Nat) : Int) t).length = 0
    · rw [h0, List.take_zero, parseF_nil]; rfl
    · rw [parseF_no (fun h => by have := congrArg List.length h; rw [List.length_take, List.length_nil] at this; omega) (.inl (take_cut hKr' (by omega) hjl)), decide_eq_false h0]; rfl
  have hkk : ((K : Int) == (K : Int)) = true := by simp
  have hkn : (((K + 1 : Nat) : Int) == (K : Int)) = false := by simp; omega
  have hnk : ((K : Int) == ((K + 1 : Nat) : Int)) = false := by simp; omega
  have hnn : (((K + 1 : Nat) : Int) == ((K + 1 : Nat) : Int)) = true := by simp
  have hlast : lastF [⟨K, 0, a, []⟩, ⟨K, 2, 0, s⟩, ⟨((K + 1 : Nat) : Int), 0, b, []⟩, ⟨((K + 1 : Nat) : Int), 2, 0, t⟩] K = some ⟨K, 2, 0, s⟩ := by
    unfold lastF allF
    simp only [List.filter_cons, List.filter_nil, hkk, hkn]; rfl
  have hall : (allF [⟨K, 0, a, []⟩, ⟨K, 2, 0, s⟩, ⟨((K + 1 : Nat) : Int), 0, b, []⟩, ⟨((K + 1 : Nat) : Int), 2, 0, t⟩] ((K + 1 : Nat) : Int)).length = 2 := by
    unfold allF
    simp only [List.filter_cons, List.filter_nil, hnk, hnn]; rfl
  clear hkk hkn hnk hnn
  repeat first
    | ((first | apply wr_move | apply wr_assign); exact rfl; with_reducible (conv => enter [6, 3]; whnf))
    | (first | apply wr_end | apply wc_seq | apply wc_region | apply wc_skip | apply wc_block)
    | ((first | apply wr_fieldAddr | apply wr_not | apply wr_len_str | apply wr_len_slice | apply wr_box); iterate 2 exact rfl)
    | (apply wr_load; (iterate 3 exact rfl); (focus repeat first | with_reducible assumption | exact heap_alloc_same _ _ | exact World.putObj_heap_same (by first | omega | (simp only [World.size_alloc, World.putObj_size, ne_eq]; omega)) | ((first | refine hAl ?_ ?_ | refine hPu ?_ ?_); focus first | omega | (simp only [World.size_alloc, World.putObj_size, ne_eq]; omega))); exact rfl; conv => enter [6, 3]; whnf)
    | (apply wr_cmp; (iterate 3 exact rfl); (first | exact cmpT (by dsimp only [cmpP]; first | done | omega) | exact cmpF (by dsimp only [cmpN]; first | done | omega) | exact cmp_lt _ _ | exact cmp_le _ _ | exact cmp_gt _ _ | exact cmp_ge _ _ | exact cmp_eq _ _ | exact cmp_ne _ _))
    | (apply wr_pick (t := true); (iterate 2 exact rfl); with_reducible (conv => enter [6, 3]; whnf))
    | (apply wr_pick (t := false); (iterate 2 exact rfl); with_reducible (conv => enter [6, 3]; whnf))
    | ((first | apply wr_add | apply wr_sub | apply wr_mul); (iterate 3 exact rfl); (first | exact w_fit (by dsimp only [kIn]; first | done | omega) | with_reducible assumption | rfl))
    | (apply wr_conv; (iterate 2 exact rfl); (first | exact w_fit (by dsimp only [kIn]; first | done | omega) | with_reducible assumption | rfl))
    | (apply wr_alloc; exact rfl)
    | (apply wr_extract; (iterate 3 exact rfl); with_reducible (conv => enter [6, 3]; whnf))
    | (apply wr_store; (iterate 3 exact rfl); (first | exact rfl | with_reducible assumption); (focus repeat first | with_reducible assumption | exact heap_alloc_same _ _ | exact World.putObj_heap_same (by first | omega | (simp only [World.size_alloc, World.putObj_size, ne_eq]; omega)) | ((first | refine hAl ?_ ?_ | refine hPu ?_ ?_); focus first | omega | (simp only [World.size_alloc, World.putObj_size, ne_eq]; omega))); exact rfl)
    | (apply wr_cat; (iterate 3 exact rfl); (first | omega | (simp only [List.length_append]; omega)))
    | (apply wr_streqc; (iterate 3 exact rfl); (first | exact decide_eq_true (by with_reducible assumption) | exact decide_eq_false (by with_reducible assumption) | exact decide_eq_true rfl | exact rfl))
    | (apply wr_strnec; (iterate 3 exact rfl); (first | exact decide_eq_true (by with_reducible assumption) | exact decide_eq_false (by with_reducible assumption) | exact decide_eq_true rfl | exact rfl); with_reducible (conv => enter [6, 3]; whnf))
    | (apply wr_bits; exact rfl; (focus (simp; done)); (iterate 2 exact rfl); assumption)
    | (apply wr_eqnil_t; iterate 2 exact rfl)
    | (apply wr_eqnil_f; iterate 2 exact rfl)
    | (apply wr_nenil_f; iterate 2 exact rfl)
    | (apply wr_nenil_t; iterate 2 exact rfl)
    | (apply wc_true; exact rfl)
    | (apply wc_false; exact rfl)
    | (apply wc_exit; try simp only [thenE, inBlockE, bodyQ, ↓reduceIte, Nat.reduceEqDiff])
    | ((first | apply wc_ret | apply wr_nil); try simp only [thenE, inBlockE, bodyQ])
    | (apply wr_skip; exact rfl)
  refine wr_call (vs := []) rfl (examples_ca hg) rfl ?_
  rintro v w1 ⟨rfl, hk1⟩
  have hg1 := hg.keep hk1 (fun i hi h => h)
  repeat first
    | ((first | apply wr_move | apply wr_assign); exact rfl; with_reducible (conv => enter [6, 3]; whnf))
    | (first | apply wr_end | apply wc_seq | apply wc_region | apply wc_skip | apply wc_block)
    | ((first | apply wr_fieldAddr | apply wr_not | apply wr_len_str | apply wr_len_slice | apply wr_box); iterate 2 exact rfl)
    | (apply wr_load; (iterate 3 exact rfl); (focus repeat first | with_reducible assumption | exact heap_alloc_same _ _ | exact World.putObj_heap_same (by first | omega | (simp only [World.size_alloc, World.putObj_size, ne_eq]; omega)) | ((first | refine hAl ?_ ?_ | refine hPu ?_ ?_); focus first | omega | (simp only [World.size_alloc, World.putObj_size, ne_eq]; omega))); exact rfl; conv => enter [6, 3]; whnf)
    | (apply wr_cmp; (iterate 3 exact rfl); (first | exact cmpT (by dsimp only [cmpP]; first | done | omega) | exact cmpF (by dsimp only [cmpN]; first | done | omega) | exact cmp_lt _ _ | exact cmp_le _ _ | exact cmp_gt _ _ | exact cmp_ge _ _ | exact cmp_eq _ _ | exact cmp_ne _ _))
    | (apply wr_pick (t := true); (iterate 2 exact rfl); with_reducible (conv => enter [6, 3]; whnf))
    | (apply wr_pick (t := false); (iterate 2 exact rfl); with_reducible (conv => enter [6, 3]; whnf))
    | ((first | apply wr_add | apply wr_sub | apply wr_mul); (iterate 3 exact rfl); (first | exact w_fit (by dsimp only [kIn]; first | done | omega) | with_reducible assumption | rfl))
    | (apply wr_conv; (iterate 2 exact rfl); (first | exact w_fit (by dsimp only [kIn]; first | done | omega) | with_reducible assumption | rfl))
    | (apply wr_alloc; exact rfl)
    | (apply wr_extract; (iterate 3 exact rfl); with_reducible (conv => enter [6, 3]; whnf))
    | (apply wr_store; (iterate 3 exact rfl); (first | exact rfl | with_reducible assumption); (focus repeat first | with_reducible assumption | exact heap_alloc_same _ _ | exact World.putObj_heap_same (by first | omega | (simp only [World.size_alloc, World.putObj_size, ne_eq]; omega)) | ((first | refine hAl ?_ ?_ | refine hPu ?_ ?_); focus first | omega | (simp only [World.size_alloc, World.putObj_size, ne_eq]; omega))); exact rfl)
    | (apply wr_cat; (iterate 3 exact rfl); (first | omega | (simp only [List.length_append]; omega)))
    | (apply wr_streqc; (iterate 3 exact rfl); (first | exact decide_eq_true (by with_reducible assumption) | exact decide_eq_false (by with_reducible assumption) | exact decide_eq_true rfl | exact rfl))
    | (apply wr_strnec; (iterate 3 exact rfl); (first | exact decide_eq_true (by with_reducible assumption) | exact decide_eq_false (by with_reducible assumption) | exact decide_eq_true rfl | exact rfl); with_reducible (conv => enter [6, 3]; whnf))
    | (apply wr_bits; exact rfl; (focus (simp; done)); (iterate 2 exact rfl); assumption)
    | (apply wr_eqnil_t; iterate 2 exact rfl)
    | (apply wr_eqnil_f; iterate 2 exact rfl)
    | (apply wr_nenil_f; iterate 2 exact rfl)
    | (apply wr_nenil_t; iterate 2 exact rfl)
    | (apply wc_true; exact rfl)
    | (apply wc_false; exact rfl)
    | (apply wc_exit; try simp only [thenE, inBlockE, bodyQ, ↓reduceIte, Nat.reduceEqDiff])
    | ((first | apply wc_ret | apply wr_nil); try simp only [thenE, inBlockE, bodyQ])
    | (apply wr_skip; exact rfl)
  rw [e1]
  refine wr_call (vs := [.int .i64 (K : Int), .int .u64 (a : Int)]) rfl (number_ca K a (by omega) ha _) rfl ?_
  rintro v w2 ⟨rfl, hk2⟩
  repeat first
    | ((first | apply wr_move | apply wr_assign); exact rfl; with_reducible (conv => enter [6, 3]; whnf))
    | (first | apply wr_end | apply wc_seq | apply wc_region | apply wc_skip | apply wc_block)
    | ((first | apply wr_fieldAddr | apply wr_not | apply wr_len_str | apply wr_len_slice | apply wr_box); iterate 2 exact rfl)
    | (apply wr_load; (iterate 3 exact rfl); (focus repeat first | with_reducible assumption | exact heap_alloc_same _ _ | exact World.putObj_heap_same (by first | omega | (simp only [World.size_alloc, World.putObj_size, ne_eq]; omega)) | ((first | refine hAl ?_ ?_ | refine hPu ?_ ?_); focus first | omega | (simp only [World.size_alloc, World.putObj_size, ne_eq]; omega))); exact rfl; conv => enter [6, 3]; whnf)
    | (apply wr_cmp; (iterate 3 exact rfl); (first | exact cmpT (by dsimp only [cmpP]; first | done | omega) | exact cmpF (by dsimp only [cmpN]; first | done | omega) | exact cmp_lt _ _ | exact cmp_le _ _ | exact cmp_gt _ _ | exact cmp_ge _ _ | exact cmp_eq _ _ | exact cmp_ne _ _))
    | (apply wr_pick (t := true); (iterate 2 exact rfl); with_reducible (conv => enter [6, 3]; whnf))
    | (apply wr_pick (t := false); (iterate 2 exact rfl); with_reducible (conv => enter [6, 3]; whnf))
    | ((first | apply wr_add | apply wr_sub | apply wr_mul); (iterate 3 exact rfl); (first | exact w_fit (by dsimp only [kIn]; first | done | omega) | with_reducible assumption | rfl))
    | (apply wr_conv; (iterate 2 exact rfl); (first | exact w_fit (by dsimp only [kIn]; first | done | omega) | with_reducible assumption | rfl))
    | (apply wr_alloc; exact rfl)
    | (apply wr_extract; (iterate 3 exact rfl); with_reducible (conv => enter [6, 3]; whnf))
    | (apply wr_store; (iterate 3 exact rfl); (first | exact rfl | with_reducible assumption); (focus repeat first | with_reducible assumption | exact heap_alloc_same _ _ | exact World.putObj_heap_same (by first | omega | (simp only [World.size_alloc, World.putObj_size, ne_eq]; omega)) | ((first | refine hAl ?_ ?_ | refine hPu ?_ ?_); focus first | omega | (simp only [World.size_alloc, World.putObj_size, ne_eq]; omega))); exact rfl)
    | (apply wr_cat; (iterate 3 exact rfl); (first | omega | (simp only [List.length_append]; omega)))
    | (apply wr_streqc; (iterate 3 exact rfl); (first | exact decide_eq_true (by with_reducible assumption) | exact decide_eq_false (by with_reducible assumption) | exact decide_eq_true rfl | exact rfl))
    | (apply wr_strnec; (iterate 3 exact rfl); (first | exact decide_eq_true (by with_reducible assumption) | exact decide_eq_false (by with_reducible assumption) | exact decide_eq_true rfl | exact rfl); with_reducible (conv => enter [6, 3]; whnf))
    | (apply wr_bits; exact rfl; (focus (simp; done)); (iterate 2 exact rfl); assumption)
    | (apply wr_eqnil_t; iterate 2 exact rfl)
    | (apply wr_eqnil_f; iterate 2 exact rfl)
    | (apply wr_nenil_f; iterate 2 exact rfl)
    | (apply wr_nenil_t; iterate 2 exact rfl)
    | (apply wc_true; exact rfl)
    | (apply wc_false; exact rfl)
    | (apply wc_exit; try simp only [thenE, inBlockE, bodyQ, ↓reduceIte, Nat.reduceEqDiff])
    | ((first | apply wc_ret | apply wr_nil); try simp only [thenE, inBlockE, bodyQ])
    | (apply wr_skip; exact rfl)
  refine wr_call (vs := [.int .i64 (K : Int), S s]) rfl (text_ca K s (by omega) (by omega) _) rfl ?_
  rintro v w3 ⟨rfl, hk3⟩
  repeat first
    | ((first | apply wr_move | apply wr_assign); exact rfl; with_reducible (conv => enter [6, 3]; whnf))
    | (first | apply wr_end | apply wc_seq | apply wc_region | apply wc_skip | apply wc_block)
    | ((first | apply wr_fieldAddr | apply wr_not | apply wr_len_str | apply wr_len_slice | apply wr_box); iterate 2 exact rfl)
    | (apply wr_load; (iterate 3 exact rfl); (focus repeat first | with_reducible assumption | exact heap_alloc_same _ _ | exact World.putObj_heap_same (by first | omega | (simp only [World.size_alloc, World.putObj_size, ne_eq]; omega)) | ((first | refine hAl ?_ ?_ | refine hPu ?_ ?_); focus first | omega | (simp only [World.size_alloc, World.putObj_size, ne_eq]; omega))); exact rfl; conv => enter [6, 3]; whnf)
    | (apply wr_cmp; (iterate 3 exact rfl); (first | exact cmpT (by dsimp only [cmpP]; first | done | omega) | exact cmpF (by dsimp only [cmpN]; first | done | omega) | exact cmp_lt _ _ | exact cmp_le _ _ | exact cmp_gt _ _ | exact cmp_ge _ _ | exact cmp_eq _ _ | exact cmp_ne _ _))
    | (apply wr_pick (t := true); (iterate 2 exact rfl); with_reducible (conv => enter [6, 3]; whnf))
    | (apply wr_pick (t := false); (iterate 2 exact rfl); with_reducible (conv => enter [6, 3]; whnf))
    | ((first | apply wr_add | apply wr_sub | apply wr_mul); (iterate 3 exact rfl); (first | exact w_fit (by dsimp only [kIn]; first | done | omega) | with_reducible assumption | rfl))
    | (apply wr_conv; (iterate 2 exact rfl); (first | exact w_fit (by dsimp only [kIn]; first | done | omega) | with_reducible assumption | rfl))
    | (apply wr_alloc; exact rfl)
    | (apply wr_extract; (iterate 3 exact rfl); with_reducible (conv => enter [6, 3]; whnf))
    | (apply wr_store; (iterate 3 exact rfl); (first | exact rfl | with_reducible assumption); (focus repeat first | with_reducible assumption | exact heap_alloc_same _ _ | exact World.putObj_heap_same (by first | omega | (simp only [World.size_alloc, World.putObj_size, ne_eq]; omega)) | ((first | refine hAl ?_ ?_ | refine hPu ?_ ?_); focus first | omega | (simp only [World.size_alloc, World.putObj_size, ne_eq]; omega))); exact rfl)
    | (apply wr_cat; (iterate 3 exact rfl); (first | omega | (simp only [List.length_append]; omega)))
    | (apply wr_streqc; (iterate 3 exact rfl); (first | exact decide_eq_true (by with_reducible assumption) | exact decide_eq_false (by with_reducible assumption) | exact decide_eq_true rfl | exact rfl))
    | (apply wr_strnec; (iterate 3 exact rfl); (first | exact decide_eq_true (by with_reducible assumption) | exact decide_eq_false (by with_reducible assumption) | exact decide_eq_true rfl | exact rfl); with_reducible (conv => enter [6, 3]; whnf))
    | (apply wr_bits; exact rfl; (focus (simp; done)); (iterate 2 exact rfl); assumption)
    | (apply wr_eqnil_t; iterate 2 exact rfl)
    | (apply wr_eqnil_f; iterate 2 exact rfl)
    | (apply wr_nenil_f; iterate 2 exact rfl)
    | (apply wr_nenil_t; iterate 2 exact rfl)
    | (apply wc_true; exact rfl)
    | (apply wc_false; exact rfl)
    | (apply wc_exit; try simp only [thenE, inBlockE, bodyQ, ↓reduceIte, Nat.reduceEqDiff])
    | ((first | apply wc_ret | apply wr_nil); try simp only [thenE, inBlockE, bodyQ])
    | (apply wr_skip; exact rfl)
  rw [e2]
  refine wr_call (vs := [.int .i64 ((K + 1 : Nat) : Int), .int .u64 (b : Int)]) rfl (number_ca ((K + 1 : Nat) : Int) b (by omega) hb _) rfl ?_
  rintro v w4 ⟨rfl, hk4⟩
  repeat first
    | ((first | apply wr_move | apply wr_assign); exact rfl; with_reducible (conv => enter [6, 3]; whnf))
    | (first | apply wr_end | apply wc_seq | apply wc_region | apply wc_skip | apply wc_block)
    | ((first | apply wr_fieldAddr | apply wr_not | apply wr_len_str | apply wr_len_slice | apply wr_box); iterate 2 exact rfl)
    | (apply wr_load; (iterate 3 exact rfl); (focus repeat first | with_reducible assumption | exact heap_alloc_same _ _ | exact World.putObj_heap_same (by first | omega | (simp only [World.size_alloc, World.putObj_size, ne_eq]; omega)) | ((first | refine hAl ?_ ?_ | refine hPu ?_ ?_); focus first | omega | (simp only [World.size_alloc, World.putObj_size, ne_eq]; omega))); exact rfl; conv => enter [6, 3]; whnf)
    | (apply wr_cmp; (iterate 3 exact rfl); (first | exact cmpT (by dsimp only [cmpP]; first | done | omega) | exact cmpF (by dsimp only [cmpN]; first | done | omega) | exact cmp_lt _ _ | exact cmp_le _ _ | exact cmp_gt _ _ | exact cmp_ge _ _ | exact cmp_eq _ _ | exact cmp_ne _ _))
    | (apply wr_pick (t := true); (iterate 2 exact rfl); with_reducible (conv => enter [6, 3]; whnf))
    | (apply wr_pick (t := false); (iterate 2 exact rfl); with_reducible (conv => enter [6, 3]; whnf))
    | ((first | apply wr_add | apply wr_sub | apply wr_mul); (iterate 3 exact rfl); (first | exact w_fit (by dsimp only [kIn]; first | done | omega) | with_reducible assumption | rfl))
    | (apply wr_conv; (iterate 2 exact rfl); (first | exact w_fit (by dsimp only [kIn]; first | done | omega) | with_reducible assumption | rfl))
    | (apply wr_alloc; exact rfl)
    | (apply wr_extract; (iterate 3 exact rfl); with_reducible (conv => enter [6, 3]; whnf))
    | (apply wr_store; (iterate 3 exact rfl); (first | exact rfl | with_reducible assumption); (focus repeat first | with_reducible assumption | exact heap_alloc_same _ _ | exact World.putObj_heap_same (by first | omega | (simp only [World.size_alloc, World.putObj_size, ne_eq]; omega)) | ((first | refine hAl ?_ ?_ | refine hPu ?_ ?_); focus first | omega | (simp only [World.size_alloc, World.putObj_size, ne_eq]; omega))); exact rfl)
    | (apply wr_cat; (iterate 3 exact rfl); (first | omega | (simp only [List.length_append]; omega)))
    | (apply wr_streqc; (iterate 3 exact rfl); (first | exact decide_eq_true (by with_reducible assumption) | exact decide_eq_false (by with_reducible assumption) | exact decide_eq_true rfl | exact rfl))
    | (apply wr_strnec; (iterate 3 exact rfl); (first | exact decide_eq_true (by with_reducible assumption) | exact decide_eq_false (by with_reducible assumption) | exact decide_eq_true rfl | exact rfl); with_reducible (conv => enter [6, 3]; whnf))
    | (apply wr_bits; exact rfl; (focus (simp; done)); (iterate 2 exact rfl); assumption)
    | (apply wr_eqnil_t; iterate 2 exact rfl)
    | (apply wr_eqnil_f; iterate 2 exact rfl)
    | (apply wr_nenil_f; iterate 2 exact rfl)
    | (apply wr_nenil_t; iterate 2 exact rfl)
    | (apply wc_true; exact rfl)
    | (apply wc_false; exact rfl)
    | (apply wc_exit; try simp only [thenE, inBlockE, bodyQ, ↓reduceIte, Nat.reduceEqDiff])
    | ((first | apply wc_ret | apply wr_nil); try simp only [thenE, inBlockE, bodyQ])
    | (apply wr_skip; exact rfl)
  rw [e2]
  refine wr_call (vs := [.int .i64 ((K + 1 : Nat) : Int), S t]) rfl (text_ca ((K + 1 : Nat) : Int) t (by omega) (by omega) _) rfl ?_
  rintro v w5 ⟨rfl, hk5⟩
  have hk15 := hk2.trans (hk3.trans (hk4.trans hk5))
  have hg5 := hg1.keep hk15 (fun i hi h => h)
  repeat first
    | ((first | apply wr_move | apply wr_assign); exact rfl; with_reducible (conv => enter [6, 3]; whnf))
    | (first | apply wr_end | apply wc_seq | apply wc_region | apply wc_skip | apply wc_block)
    | ((first | apply wr_fieldAddr | apply wr_not | apply wr_len_str | apply wr_len_slice | apply wr_box); iterate 2 exact rfl)
    | (apply wr_load; (iterate 3 exact rfl); (focus repeat first | with_reducible assumption | exact heap_alloc_same _ _ | exact World.putObj_heap_same (by first | omega | (simp only [World.size_alloc, World.putObj_size, ne_eq]; omega)) | ((first | refine hAl ?_ ?_ | refine hPu ?_ ?_); focus first | omega | (simp only [World.size_alloc, World.putObj_size, ne_eq]; omega))); exact rfl; conv => enter [6, 3]; whnf)
    | (apply wr_cmp; (iterate 3 exact rfl); (first | exact cmpT (by dsimp only [cmpP]; first | done | omega) | exact cmpF (by dsimp only [cmpN]; first | done | omega) | exact cmp_lt _ _ | exact cmp_le _ _ | exact cmp_gt _ _ | exact cmp_ge _ _ | exact cmp_eq _ _ | exact cmp_ne _ _))
    | (apply wr_pick (t := true); (iterate 2 exact rfl); with_reducible (conv => enter [6, 3]; whnf))
    | (apply wr_pick (t := false); (iterate 2 exact rfl); with_reducible (conv => enter [6, 3]; whnf))
    | ((first | apply wr_add | apply wr_sub | apply wr_mul); (iterate 3 exact rfl); (first | exact w_fit (by dsimp only [kIn]; first | done | omega) | with_reducible assumption | rfl))
    | (apply wr_conv; (iterate 2 exact rfl); (first | exact w_fit (by dsimp only [kIn]; first | done | omega) | with_reducible assumption | rfl))
    | (apply wr_alloc; exact rfl)
    | (apply wr_extract; (iterate 3 exact rfl); with_reducible (conv => enter [6, 3]; whnf))
    | (apply wr_store; (iterate 3 exact rfl); (first | exact rfl | with_reducible assumption); (focus repeat first | with_reducible assumption | exact heap_alloc_same _ _ | exact World.putObj_heap_same (by first | omega | (simp only [World.size_alloc, World.putObj_size, ne_eq]; omega)) | ((first | refine hAl ?_ ?_ | refine hPu ?_ ?_); focus first | omega | (simp only [World.size_alloc, World.putObj_size, ne_eq]; omega))); exact rfl)
    | (apply wr_cat; (iterate 3 exact rfl); (first | omega | (simp only [List.length_append]; omega)))
    | (apply wr_streqc; (iterate 3 exact rfl); (first | exact decide_eq_true (by with_reducible assumption) | exact decide_eq_false (by with_reducible assumption) | exact decide_eq_true rfl | exact rfl))
    | (apply wr_strnec; (iterate 3 exact rfl); (first | exact decide_eq_true (by with_reducible assumption) | exact decide_eq_false (by with_reducible assumption) | exact decide_eq_true rfl | exact rfl); with_reducible (conv => enter [6, 3]; whnf))
    | (apply wr_bits; exact rfl; (focus (simp; done)); (iterate 2 exact rfl); assumption)
    | (apply wr_eqnil_t; iterate 2 exact rfl)
    | (apply wr_eqnil_f; iterate 2 exact rfl)
    | (apply wr_nenil_f; iterate 2 exact rfl)
    | (apply wr_nenil_t; iterate 2 exact rfl)
    | (apply wc_true; exact rfl)
    | (apply wc_false; exact rfl)
    | (apply wc_exit; try simp only [thenE, inBlockE, bodyQ, ↓reduceIte, Nat.reduceEqDiff])
    | ((first | apply wc_ret | apply wr_nil); try simp only [thenE, inBlockE, bodyQ])
    | (apply wr_skip; exact rfl)
  refine wr_call (vs := [S (numberF K a ++ textF K s ++ numberF ((K + 1 : Nat) : Int) b ++ textF ((K + 1 : Nat) : Int) t)]) rfl (parse_ca' _ (by simp only [List.length_append]; omega) (by rw [back_cnt hK1 ha hb (by omega), ← List.append_nil (textF ((K + 1 : Nat) : Int) t), cntF_ok (by rw [List.append_nil]; exact hy0) (takeF_text hKr' (by omega) []), cntF_nil]; decide) hg5) rfl ?_
  rintro v w6 ⟨hv, hk6⟩
  obtain ⟨sl, rfl, hsl⟩ := parseR_get hv
  clear hv
  rw [hpar] at hsl ⊢
  simp only [Option.getD_some, Option.isSome_some] at hsl ⊢
  have hg6 := hg5.keep hk6 (fun i hi h => h)
  obtain ⟨al, cl, rfl, hcl, hal⟩ := hsl.shape
  repeat first
    | ((first | apply wr_move | apply wr_assign); exact rfl; with_reducible (conv => enter [6, 3]; whnf))
    | (first | apply wr_end | apply wc_seq | apply wc_region | apply wc_skip | apply wc_block)
    | ((first | apply wr_fieldAddr | apply wr_not | apply wr_len_str | apply wr_len_slice | apply wr_box); iterate 2 exact rfl)
    | (apply wr_load; (iterate 3 exact rfl); (focus repeat first | with_reducible assumption | exact heap_alloc_same _ _ | exact World.putObj_heap_same (by first | omega | (simp only [World.size_alloc, World.putObj_size, ne_eq]; omega)) | ((first | refine hAl ?_ ?_ | refine hPu ?_ ?_); focus first | omega | (simp only [World.size_alloc, World.putObj_size, ne_eq]; omega))); exact rfl; conv => enter [6, 3]; whnf)
    | (apply wr_cmp; (iterate 3 exact rfl); (first | exact cmpT (by dsimp only [cmpP]; first | done | omega) | exact cmpF (by dsimp only [cmpN]; first | done | omega) | exact cmp_lt _ _ | exact cmp_le _ _ | exact cmp_gt _ _ | exact cmp_ge _ _ | exact cmp_eq _ _ | exact cmp_ne _ _))
    | (apply wr_pick (t := true); (iterate 2 exact rfl); with_reducible (conv => enter [6, 3]; whnf))
    | (apply wr_pick (t := false); (iterate 2 exact rfl); with_reducible (conv => enter [6, 3]; whnf))
    | ((first | apply wr_add | apply wr_sub | apply wr_mul); (iterate 3 exact rfl); (first | exact w_fit (by dsimp only [kIn]; first | done | omega) | with_reducible assumption | rfl))
    | (apply wr_conv; (iterate 2 exact rfl); (first | exact w_fit (by dsimp only [kIn]; first | done | omega) | with_reducible assumption | rfl))
    | (apply wr_alloc; exact rfl)
    | (apply wr_extract; (iterate 3 exact rfl); with_reducible (conv => enter [6, 3]; whnf))
    | (apply wr_store; (iterate 3 exact rfl); (first | exact rfl | with_reducible assumption); (focus repeat first | with_reducible assumption | exact heap_alloc_same _ _ | exact World.putObj_heap_same (by first | omega | (simp only [World.size_alloc, World.putObj_size, ne_eq]; omega)) | ((first | refine hAl ?_ ?_ | refine hPu ?_ ?_); focus first | omega | (simp only [World.size_alloc, World.putObj_size, ne_eq]; omega))); exact rfl)
    | (apply wr_cat; (iterate 3 exact rfl); (first | omega | (simp only [List.length_append]; omega)))
    | (apply wr_streqc; (iterate 3 exact rfl); (first | exact decide_eq_true (by with_reducible assumption) | exact decide_eq_false (by with_reducible assumption) | exact decide_eq_true rfl | exact rfl))
    | (apply wr_strnec; (iterate 3 exact rfl); (first | exact decide_eq_true (by with_reducible assumption) | exact decide_eq_false (by with_reducible assumption) | exact decide_eq_true rfl | exact rfl); with_reducible (conv => enter [6, 3]; whnf))
    | (apply wr_bits; exact rfl; (focus (simp; done)); (iterate 2 exact rfl); assumption)
    | (apply wr_eqnil_t; iterate 2 exact rfl)
    | (apply wr_eqnil_f; iterate 2 exact rfl)
    | (apply wr_nenil_f; iterate 2 exact rfl)
    | (apply wr_nenil_t; iterate 2 exact rfl)
    | (apply wc_true; exact rfl)
    | (apply wc_false; exact rfl)
    | (apply wc_exit; try simp only [thenE, inBlockE, bodyQ, ↓reduceIte, Nat.reduceEqDiff])
    | ((first | apply wc_ret | apply wr_nil); try simp only [thenE, inBlockE, bodyQ])
    | (apply wr_skip; exact rfl)
  refine wr_remN (n := cut) (m := (textF ((K + 1 : Nat) : Int) t).length) rfl rfl rfl hylen ?_
  refine wr_sl_to (j := cut % (textF ((K + 1 : Nat) : Int) t).length) rfl rfl rfl (Nat.le_of_lt hjl) ?_
  have htk : ((textF ((K + 1 : Nat) : Int) t).take (cut % (textF ((K + 1 : Nat) : Int) t).length)).length ≤ (textF ((K + 1 : Nat) : Int) t).length := by rw [List.length_take]; omega
  repeat first
    | ((first | apply wr_move | apply wr_assign); exact rfl; with_reducible (conv => enter [6, 3]; whnf))
    | (first | apply wr_end | apply wc_seq | apply wc_region | apply wc_skip | apply wc_block)
    | ((first | apply wr_fieldAddr | apply wr_not | apply wr_len_str | apply wr_len_slice | apply wr_box); iterate 2 exact rfl)
    | (apply wr_load; (iterate 3 exact rfl); (focus repeat first | with_reducible assumption | exact heap_alloc_same _ _ | exact World.putObj_heap_same (by first | omega | (simp only [World.size_alloc, World.putObj_size, ne_eq]; omega)) | ((first | refine hAl ?_ ?_ | refine hPu ?_ ?_); focus first | omega | (simp only [World.size_alloc, World.putObj_size, ne_eq]; omega))); exact rfl; conv => enter [6, 3]; whnf)
    | (apply wr_cmp; (iterate 3 exact rfl); (first | exact cmpT (by dsimp only [cmpP]; first | done | omega) | exact cmpF (by dsimp only [cmpN]; first | done | omega) | exact cmp_lt _ _ | exact cmp_le _ _ | exact cmp_gt _ _ | exact cmp_ge _ _ | exact cmp_eq _ _ | exact cmp_ne _ _))
    | (apply wr_pick (t := true); (iterate 2 exact rfl); with_reducible (conv => enter [6, 3]; whnf))
    | (apply wr_pick (t := false); (iterate 2 exact rfl); with_reducible (conv => enter [6, 3]; whnf))
    | ((first | apply wr_add | apply wr_sub | apply wr_mul); (iterate 3 exact rfl); (first | exact w_fit (by dsimp only [kIn]; first | done | omega) | with_reducible assumption | rfl))
    | (apply wr_conv; (iterate 2 exact rfl); (first | exact w_fit (by dsimp only [kIn]; first | done | omega) | with_reducible assumption | rfl))
    | (apply wr_alloc; exact rfl)
    | (apply wr_extract; (iterate 3 exact rfl); with_reducible (conv => enter [6, 3]; whnf))
    | (apply wr_store; (iterate 3 exact rfl); (first | exact rfl | with_reducible assumption); (focus repeat first | with_reducible assumption | exact heap_alloc_same _ _ | exact World.putObj_heap_same (by first | omega | (simp only [World.size_alloc, World.putObj_size, ne_eq]; omega)) | ((first | refine hAl ?_ ?_ | refine hPu ?_ ?_); focus first | omega | (simp only [World.size_alloc, World.putObj_size, ne_eq]; omega))); exact rfl)
    | (apply wr_cat; (iterate 3 exact rfl); (first | omega | (simp only [List.length_append]; omega)))
    | (apply wr_streqc; (iterate 3 exact rfl); (first | exact decide_eq_true (by with_reducible assumption) | exact decide_eq_false (by with_reducible assumption) | exact decide_eq_true rfl | exact rfl))
    | (apply wr_strnec; (iterate 3 exact rfl); (first | exact decide_eq_true (by with_reducible assumption) | exact decide_eq_false (by with_reducible assumption) | exact decide_eq_true rfl | exact rfl); with_reducible (conv => enter [6, 3]; whnf))
    | (apply wr_bits; exact rfl; (focus (simp; done)); (iterate 2 exact rfl); assumption)
    | (apply wr_eqnil_t; iterate 2 exact rfl)
    | (apply wr_eqnil_f; iterate 2 exact rfl)
    | (apply wr_nenil_f; iterate 2 exact rfl)
    | (apply wr_nenil_t; iterate 2 exact rfl)
    | (apply wc_true; exact rfl)
    | (apply wc_false; exact rfl)
    | (apply wc_exit; try simp only [thenE, inBlockE, bodyQ, ↓reduceIte, Nat.reduceEqDiff])
    | ((first | apply wc_ret | apply wr_nil); try simp only [thenE, inBlockE, bodyQ])
    | (apply wr_skip; exact rfl)
  refine wr_call (vs := [S (numberF K a ++ textF K s ++ numberF ((K + 1 : Nat) : Int) b ++ (textF ((K + 1 : Nat) : Int) t).take (cut % (textF ((K + 1 : Nat) : Int) t).length))]) rfl (parse_ca' _ (by simp only [List.length_append]; omega) (by rw [back_cnt hK1 ha hb (by omega), cntF_cut hKr' (by omega) hjl]; decide) hg6) rfl ?_
  rintro v w7 ⟨hv, hk7⟩
  obtain ⟨sc, rfl, hsc⟩ := parseR_get hv
  clear hv hsc
  rw [hcutp]
  have hsl7 := hsl.keep hk7 (fun _ _ h => h)
  repeat first
    | ((first | apply wr_move | apply wr_assign); exact rfl; with_reducible (conv => enter [6, 3]; whnf))
    | (first | apply wr_end | apply wc_seq | apply wc_region | apply wc_skip | apply wc_block)
    | ((first | apply wr_fieldAddr | apply wr_not | apply wr_len_str | apply wr_len_slice | apply wr_box); iterate 2 exact rfl)
    | (apply wr_load; (iterate 3 exact rfl); (focus repeat first | with_reducible assumption | exact heap_alloc_same _ _ | exact World.putObj_heap_same (by first | omega | (simp only [World.size_alloc, World.putObj_size, ne_eq]; omega)) | ((first | refine hAl ?_ ?_ | refine hPu ?_ ?_); focus first | omega | (simp only [World.size_alloc, World.putObj_size, ne_eq]; omega))); exact rfl; conv => enter [6, 3]; whnf)
    | (apply wr_cmp; (iterate 3 exact rfl); (first | exact cmpT (by dsimp only [cmpP]; first | done | omega) | exact cmpF (by dsimp only [cmpN]; first | done | omega) | exact cmp_lt _ _ | exact cmp_le _ _ | exact cmp_gt _ _ | exact cmp_ge _ _ | exact cmp_eq _ _ | exact cmp_ne _ _))
    | (apply wr_pick (t := true); (iterate 2 exact rfl); with_reducible (conv => enter [6, 3]; whnf))
    | (apply wr_pick (t := false); (iterate 2 exact rfl); with_reducible (conv => enter [6, 3]; whnf))
    | ((first | apply wr_add | apply wr_sub | apply wr_mul); (iterate 3 exact rfl); (first | exact w_fit (by dsimp only [kIn]; first | done | omega) | with_reducible assumption | rfl))
    | (apply wr_conv; (iterate 2 exact rfl); (first | exact w_fit (by dsimp only [kIn]; first | done | omega) | with_reducible assumption | rfl))
    | (apply wr_alloc; exact rfl)
    | (apply wr_extract; (iterate 3 exact rfl); with_reducible (conv => enter [6, 3]; whnf))
    | (apply wr_store; (iterate 3 exact rfl); (first | exact rfl | with_reducible assumption); (focus repeat first | with_reducible assumption | exact heap_alloc_same _ _ | exact World.putObj_heap_same (by first | omega | (simp only [World.size_alloc, World.putObj_size, ne_eq]; omega)) | ((first | refine hAl ?_ ?_ | refine hPu ?_ ?_); focus first | omega | (simp only [World.size_alloc, World.putObj_size, ne_eq]; omega))); exact rfl)
    | (apply wr_cat; (iterate 3 exact rfl); (first | omega | (simp only [List.length_append]; omega)))
    | (apply wr_streqc; (iterate 3 exact rfl); (first | exact decide_eq_true (by with_reducible assumption) | exact decide_eq_false (by with_reducible assumption) | exact decide_eq_true rfl | exact rfl))
    | (apply wr_strnec; (iterate 3 exact rfl); (first | exact decide_eq_true (by with_reducible assumption) | exact decide_eq_false (by with_reducible assumption) | exact decide_eq_true rfl | exact rfl); with_reducible (conv => enter [6, 3]; whnf))
    | (apply wr_bits; exact rfl; (focus (simp; done)); (iterate 2 exact rfl); assumption)
    | (apply wr_eqnil_t; iterate 2 exact rfl)
    | (apply wr_eqnil_f; iterate 2 exact rfl)
    | (apply wr_nenil_f; iterate 2 exact rfl)
    | (apply wr_nenil_t; iterate 2 exact rfl)
    | (apply wc_true; exact rfl)
    | (apply wc_false; exact rfl)
    | (apply wc_exit; try simp only [thenE, inBlockE, bodyQ, ↓reduceIte, Nat.reduceEqDiff])
    | ((first | apply wc_ret | apply wr_nil); try simp only [thenE, inBlockE, bodyQ])
    | (apply wr_skip; exact rfl)
  refine wr_call (vs := [.slice al 4 cl, .int .i64 (K : Int)]) rfl (last_ca _ K _ _ hsl7 (by simp)) rfl ?_
  rintro v w8 ⟨rfl, hk8⟩
  rw [hlast]
  dsimp only [lastV, WF.v]
  have hsl8 := hsl7.keep hk8 (fun _ _ h => h)
  repeat first
    | ((first | apply wr_move | apply wr_assign); exact rfl; with_reducible (conv => enter [6, 3]; whnf))
    | (first | apply wr_end | apply wc_seq | apply wc_region | apply wc_skip | apply wc_block)
    | ((first | apply wr_fieldAddr | apply wr_not | apply wr_len_str | apply wr_len_slice | apply wr_box); iterate 2 exact rfl)
    | (apply wr_load; (iterate 3 exact rfl); (focus repeat first | with_reducible assumption | exact heap_alloc_same _ _ | exact World.putObj_heap_same (by first | omega | (simp only [World.size_alloc, World.putObj_size, ne_eq]; omega)) | ((first | refine hAl ?_ ?_ | refine hPu ?_ ?_); focus first | omega | (simp only [World.size_alloc, World.putObj_size, ne_eq]; omega))); exact rfl; conv => enter [6, 3]; whnf)
    | (apply wr_cmp; (iterate 3 exact rfl); (first | exact cmpT (by dsimp only [cmpP]; first | done | omega) | exact cmpF (by dsimp only [cmpN]; first | done | omega) | exact cmp_lt _ _ | exact cmp_le _ _ | exact cmp_gt _ _ | exact cmp_ge _ _ | exact cmp_eq _ _ | exact cmp_ne _ _))
    | (apply wr_pick (t := true); (iterate 2 exact rfl); with_reducible (conv => enter [6, 3]; whnf))
    | (apply wr_pick (t := false); (iterate 2 exact rfl); with_reducible (conv => enter [6, 3]; whnf))
    | ((first | apply wr_add | apply wr_sub | apply wr_mul); (iterate 3 exact rfl); (first | exact w_fit (by dsimp only [kIn]; first | done | omega) | with_reducible assumption | rfl))
    | (apply wr_conv; (iterate 2 exact rfl); (first | exact w_fit (by dsimp only [kIn]; first | done | omega) | with_reducible assumption | rfl))
    | (apply wr_alloc; exact rfl)
    | (apply wr_extract; (iterate 3 exact rfl); with_reducible (conv => enter [6, 3]; whnf))
    | (apply wr_store; (iterate 3 exact rfl); (first | exact rfl | with_reducible assumption); (focus repeat first | with_reducible assumption | exact heap_alloc_same _ _ | exact World.putObj_heap_same (by first | omega | (simp only [World.size_alloc, World.putObj_size, ne_eq]; omega)) | ((first | refine hAl ?_ ?_ | refine hPu ?_ ?_); focus first | omega | (simp only [World.size_alloc, World.putObj_size, ne_eq]; omega))); exact rfl)
    | (apply wr_cat; (iterate 3 exact rfl); (first | omega | (simp only [List.length_append]; omega)))
    | (apply wr_streqc; (iterate 3 exact rfl); (first | exact decide_eq_true (by with_reducible assumption) | exact decide_eq_false (by with_reducible assumption) | exact decide_eq_true rfl | exact rfl))
    | (apply wr_strnec; (iterate 3 exact rfl); (first | exact decide_eq_true (by with_reducible assumption) | exact decide_eq_false (by with_reducible assumption) | exact decide_eq_true rfl | exact rfl); with_reducible (conv => enter [6, 3]; whnf))
    | (apply wr_bits; exact rfl; (focus (simp; done)); (iterate 2 exact rfl); assumption)
    | (apply wr_eqnil_t; iterate 2 exact rfl)
    | (apply wr_eqnil_f; iterate 2 exact rfl)
    | (apply wr_nenil_f; iterate 2 exact rfl)
    | (apply wr_nenil_t; iterate 2 exact rfl)
    | (apply wc_true; exact rfl)
    | (apply wc_false; exact rfl)
    | (apply wc_exit; try simp only [thenE, inBlockE, bodyQ, ↓reduceIte, Nat.reduceEqDiff])
    | ((first | apply wc_ret | apply wr_nil); try simp only [thenE, inBlockE, bodyQ])
    | (apply wr_skip; exact rfl)
  refine wr_storeAll (cs := [.int .i64 (K : Int), .int .i64 2, .int .u64 0, S s]) rfl rfl rfl (by intro u hu; simp at hu; rcases hu with rfl | rfl | rfl | rfl <;> rfl) (heap_alloc_same _ _) rfl rfl ?_
  obtain ⟨b6, o6, rfl, cur6, e6, fr6, hb6', hr6⟩ := hal (show 0 < 4 by decide)
  have hb8 := (hk7.trans hk8).heap hb6' (fun h => h)
  have hlt8 := lt_of_heap hb8
  have hk18 := (hk1.trans (hk15.trans (hk6.trans (hk7.trans hk8))))
  have hsz18 := hk18.size
  obtain ⟨w9, hw9⟩ : ∃ w9, w9 = (w8.alloc (.cells (Value.agg #[.int .i64 0, .int .i64 0, .int .u64 0, S []]).cells 29)).putObj w8.heap.size (.cells #[.int .i64 (K : Int), .int .i64 2, .int .u64 0, S s] 29 (0, 0)) := ⟨_, rfl⟩
  have hb6 : w9.heap[b6]? = some (.cells cur6 e6 fr6) := by rw [hw9]; exact (heap_put_ne _ _ (by omega)).trans ((heap_alloc_ne _ _ (by omega)).trans hb8)
  have hf9 : w9.heap[w8.heap.size]? = some (.cells #[.int .i64 (K : Int), .int .i64 2, .int .u64 0, S s] 29 (0, 0)) := by rw [hw9]; exact World.putObj_heap_same (by simp)
  have hk9 : Keeps NoB w w9 := by rw [hw9]; exact (hk18.alloc _).put _ (fun h => by omega)
  have hsl9 : SlR w9 4 (.slice (some ⟨b6, o6, none⟩) 4 cl) 4 (FL [⟨K, 0, a, []⟩, ⟨K, 2, 0, s⟩, ⟨((K + 1 : Nat) : Int), 0, b, []⟩, ⟨((K + 1 : Nat) : Int), 2, 0, t⟩]) :=
    ⟨rfl, _, _, rfl, hcl, .inr ⟨b6, o6, cur6, e6, fr6, rfl, hb6, hr6⟩⟩
  rw [← hw9]
  clear hw9 hb6' hb8 hk18 hsl8 hsl7 hsl hal
  repeat first
    | ((first | apply wr_move | apply wr_assign); exact rfl; with_reducible (conv => enter [6, 3]; whnf))
    | (first | apply wr_end | apply wc_seq | apply wc_region | apply wc_skip | apply wc_block)
    | ((first | apply wr_fieldAddr | apply wr_not | apply wr_len_str | apply wr_len_slice | apply wr_box); iterate 2 exact rfl)
    | (apply wr_load; (iterate 3 exact rfl); (focus repeat first | with_reducible assumption | exact heap_alloc_same _ _ | exact World.putObj_heap_same (by first | omega | (simp only [World.size_alloc, World.putObj_size, ne_eq]; omega)) | ((first | refine hAl ?_ ?_ | refine hPu ?_ ?_); focus first | omega | (simp only [World.size_alloc, World.putObj_size, ne_eq]; omega))); exact rfl; conv => enter [6, 3]; whnf)
    | (apply wr_cmp; (iterate 3 exact rfl); (first | exact cmpT (by dsimp only [cmpP]; first | done | omega) | exact cmpF (by dsimp only [cmpN]; first | done | omega) | exact cmp_lt _ _ | exact cmp_le _ _ | exact cmp_gt _ _ | exact cmp_ge _ _ | exact cmp_eq _ _ | exact cmp_ne _ _))
    | (apply wr_pick (t := true); (iterate 2 exact rfl); with_reducible (conv => enter [6, 3]; whnf))
    | (apply wr_pick (t := false); (iterate 2 exact rfl); with_reducible (conv => enter [6, 3]; whnf))
    | ((first | apply wr_add | apply wr_sub | apply wr_mul); (iterate 3 exact rfl); (first | exact w_fit (by dsimp only [kIn]; first | done | omega) | with_reducible assumption | rfl))
    | (apply wr_conv; (iterate 2 exact rfl); (first | exact w_fit (by dsimp only [kIn]; first | done | omega) | with_reducible assumption | rfl))
    | (apply wr_alloc; exact rfl)
    | (apply wr_extract; (iterate 3 exact rfl); with_reducible (conv => enter [6, 3]; whnf))
    | (apply wr_store; (iterate 3 exact rfl); (first | exact rfl | with_reducible assumption); (focus repeat first | with_reducible assumption | exact heap_alloc_same _ _ | exact World.putObj_heap_same (by first | omega | (simp only [World.size_alloc, World.putObj_size, ne_eq]; omega)) | ((first | refine hAl ?_ ?_ | refine hPu ?_ ?_); focus first | omega | (simp only [World.size_alloc, World.putObj_size, ne_eq]; omega))); exact rfl)
    | (apply wr_cat; (iterate 3 exact rfl); (first | omega | (simp only [List.length_append]; omega)))
    | (apply wr_streqc; (iterate 3 exact rfl); (first | exact decide_eq_true (by with_reducible assumption) | exact decide_eq_false (by with_reducible assumption) | exact decide_eq_true rfl | exact rfl))
    | (apply wr_strnec; (iterate 3 exact rfl); (first | exact decide_eq_true (by with_reducible assumption) | exact decide_eq_false (by with_reducible assumption) | exact decide_eq_true rfl | exact rfl); with_reducible (conv => enter [6, 3]; whnf))
    | (apply wr_bits; exact rfl; (focus (simp; done)); (iterate 2 exact rfl); assumption)
    | (apply wr_eqnil_t; iterate 2 exact rfl)
    | (apply wr_eqnil_f; iterate 2 exact rfl)
    | (apply wr_nenil_f; iterate 2 exact rfl)
    | (apply wr_nenil_t; iterate 2 exact rfl)
    | (apply wc_true; exact rfl)
    | (apply wc_false; exact rfl)
    | (apply wc_exit; try simp only [thenE, inBlockE, bodyQ, ↓reduceIte, Nat.reduceEqDiff])
    | ((first | apply wc_ret | apply wr_nil); try simp only [thenE, inBlockE, bodyQ])
    | (apply wr_skip; exact rfl)
  refine wr_indexAddr (i := 0) rfl rfl rfl (show 0 < 4 by decide) ?_
  refine wr_fieldAddr rfl rfl ?_
  refine wr_load (v := .int .u64 (a : Int)) rfl rfl rfl hb6 (cell_elem (g := WF.cs) (k := 4) (i := 0) (j := 2) WF.cs_len hr6 (show 0 < 4 by decide) rfl rfl) ?_
  repeat first
    | ((first | apply wr_move | apply wr_assign); exact rfl; with_reducible (conv => enter [6, 3]; whnf))
    | (first | apply wr_end | apply wc_seq | apply wc_region | apply wc_skip | apply wc_block)
    | ((first | apply wr_fieldAddr | apply wr_not | apply wr_len_str | apply wr_len_slice | apply wr_box); iterate 2 exact rfl)
    | (apply wr_load; (iterate 3 exact rfl); (focus repeat first | with_reducible assumption | exact heap_alloc_same _ _ | exact World.putObj_heap_same (by first | omega | (simp only [World.size_alloc, World.putObj_size, ne_eq]; omega)) | ((first | refine hAl ?_ ?_ | refine hPu ?_ ?_); focus first | omega | (simp only [World.size_alloc, World.putObj_size, ne_eq]; omega))); exact rfl; conv => enter [6, 3]; whnf)
    | (apply wr_cmp; (iterate 3 exact rfl); (first | exact cmpT (by dsimp only [cmpP]; first | done | omega) | exact cmpF (by dsimp only [cmpN]; first | done | omega) | exact cmp_lt _ _ | exact cmp_le _ _ | exact cmp_gt _ _ | exact cmp_ge _ _ | exact cmp_eq _ _ | exact cmp_ne _ _))
    | (apply wr_pick (t := true); (iterate 2 exact rfl); with_reducible (conv => enter [6, 3]; whnf))
    | (apply wr_pick (t := false); (iterate 2 exact rfl); with_reducible (conv => enter [6, 3]; whnf))
    | ((first | apply wr_add | apply wr_sub | apply wr_mul); (iterate 3 exact rfl); (first | exact w_fit (by dsimp only [kIn]; first | done | omega) | with_reducible assumption | rfl))
    | (apply wr_conv; (iterate 2 exact rfl); (first | exact w_fit (by dsimp only [kIn]; first | done | omega) | with_reducible assumption | rfl))
    | (apply wr_alloc; exact rfl)
    | (apply wr_extract; (iterate 3 exact rfl); with_reducible (conv => enter [6, 3]; whnf))
    | (apply wr_store; (iterate 3 exact rfl); (first | exact rfl | with_reducible assumption); (focus repeat first | with_reducible assumption | exact heap_alloc_same _ _ | exact World.putObj_heap_same (by first | omega | (simp only [World.size_alloc, World.putObj_size, ne_eq]; omega)) | ((first | refine hAl ?_ ?_ | refine hPu ?_ ?_); focus first | omega | (simp only [World.size_alloc, World.putObj_size, ne_eq]; omega))); exact rfl)
    | (apply wr_cat; (iterate 3 exact rfl); (first | omega | (simp only [List.length_append]; omega)))
    | (apply wr_streqc; (iterate 3 exact rfl); (first | exact decide_eq_true (by with_reducible assumption) | exact decide_eq_false (by with_reducible assumption) | exact decide_eq_true rfl | exact rfl))
    | (apply wr_strnec; (iterate 3 exact rfl); (first | exact decide_eq_true (by with_reducible assumption) | exact decide_eq_false (by with_reducible assumption) | exact decide_eq_true rfl | exact rfl); with_reducible (conv => enter [6, 3]; whnf))
    | (apply wr_bits; exact rfl; (focus (simp; done)); (iterate 2 exact rfl); assumption)
    | (apply wr_eqnil_t; iterate 2 exact rfl)
    | (apply wr_eqnil_f; iterate 2 exact rfl)
    | (apply wr_nenil_f; iterate 2 exact rfl)
    | (apply wr_nenil_t; iterate 2 exact rfl)
    | (apply wc_true; exact rfl)
    | (apply wc_false; exact rfl)
    | (apply wc_exit; try simp only [thenE, inBlockE, bodyQ, ↓reduceIte, Nat.reduceEqDiff])
    | ((first | apply wc_ret | apply wr_nil); try simp only [thenE, inBlockE, bodyQ])
    | (apply wr_skip; exact rfl)
  refine wr_indexAddr (i := 1) rfl rfl rfl (show 1 < 4 by decide) ?_
  refine wr_fieldAddr rfl rfl ?_
  refine wr_load (v := S s) rfl rfl rfl hb6 (cell_elem (g := WF.cs) (k := 4) (i := 1) (j := 3) WF.cs_len hr6 (show 1 < 4 by decide) rfl rfl) ?_
  repeat first
    | ((first | apply wr_move | apply wr_assign); exact rfl; with_reducible (conv => enter [6, 3]; whnf))
    | (first | apply wr_end | apply wc_seq | apply wc_region | apply wc_skip | apply wc_block)
    | ((first | apply wr_fieldAddr | apply wr_not | apply wr_len_str | apply wr_len_slice | apply wr_box); iterate 2 exact rfl)
    | (apply wr_load; (iterate 3 exact rfl); (focus repeat first | with_reducible assumption | exact heap_alloc_same _ _ | exact World.putObj_heap_same (by first | omega | (simp only [World.size_alloc, World.putObj_size, ne_eq]; omega)) | ((first | refine hAl ?_ ?_ | refine hPu ?_ ?_); focus first | omega | (simp only [World.size_alloc, World.putObj_size, ne_eq]; omega))); exact rfl; conv => enter [6, 3]; whnf)
    | (apply wr_cmp; (iterate 3 exact rfl); (first | exact cmpT (by dsimp only [cmpP]; first | done | omega) | exact cmpF (by dsimp only [cmpN]; first | done | omega) | exact cmp_lt _ _ | exact cmp_le _ _ | exact cmp_gt _ _ | exact cmp_ge _ _ | exact cmp_eq _ _ | exact cmp_ne _ _))
    | (apply wr_pick (t := true); (iterate 2 exact rfl); with_reducible (conv => enter [6, 3]; whnf))
    | (apply wr_pick (t := false); (iterate 2 exact rfl); with_reducible (conv => enter [6, 3]; whnf))
    | ((first | apply wr_add | apply wr_sub | apply wr_mul); (iterate 3 exact rfl); (first | exact w_fit (by dsimp only [kIn]; first | done | omega) | with_reducible assumption | rfl))
    | (apply wr_conv; (iterate 2 exact rfl); (first | exact w_fit (by dsimp only [kIn]; first | done | omega) | with_reducible assumption | rfl))
    | (apply wr_alloc; exact rfl)
    | (apply wr_extract; (iterate 3 exact rfl); with_reducible (conv => enter [6, 3]; whnf))
    | (apply wr_store; (iterate 3 exact rfl); (first | exact rfl | with_reducible assumption); (focus repeat first | with_reducible assumption | exact heap_alloc_same _ _ | exact World.putObj_heap_same (by first | omega | (simp only [World.size_alloc, World.putObj_size, ne_eq]; omega)) | ((first | refine hAl ?_ ?_ | refine hPu ?_ ?_); focus first | omega | (simp only [World.size_alloc, World.putObj_size, ne_eq]; omega))); exact rfl)
    | (apply wr_cat; (iterate 3 exact rfl); (first | omega | (simp only [List.length_append]; omega)))
    | (apply wr_streqc; (iterate 3 exact rfl); (first | exact decide_eq_true (by with_reducible assumption) | exact decide_eq_false (by with_reducible assumption) | exact decide_eq_true rfl | exact rfl))
    | (apply wr_strnec; (iterate 3 exact rfl); (first | exact decide_eq_true (by with_reducible assumption) | exact decide_eq_false (by with_reducible assumption) | exact decide_eq_true rfl | exact rfl); with_reducible (conv => enter [6, 3]; whnf))
    | (apply wr_bits; exact rfl; (focus (simp; done)); (iterate 2 exact rfl); assumption)
    | (apply wr_eqnil_t; iterate 2 exact rfl)
    | (apply wr_eqnil_f; iterate 2 exact rfl)
    | (apply wr_nenil_f; iterate 2 exact rfl)
    | (apply wr_nenil_t; iterate 2 exact rfl)
    | (apply wc_true; exact rfl)
    | (apply wc_false; exact rfl)
    | (apply wc_exit; try simp only [thenE, inBlockE, bodyQ, ↓reduceIte, Nat.reduceEqDiff])
    | ((first | apply wc_ret | apply wr_nil); try simp only [thenE, inBlockE, bodyQ])
    | (apply wr_skip; exact rfl)
  refine wr_indexAddr (i := 2) rfl rfl rfl (show 2 < 4 by decide) ?_
  refine wr_fieldAddr rfl rfl ?_
  refine wr_load (v := .int .u64 (b : Int)) rfl rfl rfl hb6 (cell_elem (g := WF.cs) (k := 4) (i := 2) (j := 2) WF.cs_len hr6 (show 2 < 4 by decide) rfl rfl) ?_
  repeat first
    | ((first | apply wr_move | apply wr_assign); exact rfl; with_reducible (conv => enter [6, 3]; whnf))
    | (first | apply wr_end | apply wc_seq | apply wc_region | apply wc_skip | apply wc_block)
    | ((first | apply wr_fieldAddr | apply wr_not | apply wr_len_str | apply wr_len_slice | apply wr_box); iterate 2 exact rfl)
    | (apply wr_load; (iterate 3 exact rfl); (focus repeat first | with_reducible assumption | exact heap_alloc_same _ _ | exact World.putObj_heap_same (by first | omega | (simp only [World.size_alloc, World.putObj_size, ne_eq]; omega)) | ((first | refine hAl ?_ ?_ | refine hPu ?_ ?_); focus first | omega | (simp only [World.size_alloc, World.putObj_size, ne_eq]; omega))); exact rfl; conv => enter [6, 3]; whnf)
    | (apply wr_cmp; (iterate 3 exact rfl); (first | exact cmpT (by dsimp only [cmpP]; first | done | omega) | exact cmpF (by dsimp only [cmpN]; first | done | omega) | exact cmp_lt _ _ | exact cmp_le _ _ | exact cmp_gt _ _ | exact cmp_ge _ _ | exact cmp_eq _ _ | exact cmp_ne _ _))
    | (apply wr_pick (t := true); (iterate 2 exact rfl); with_reducible (conv => enter [6, 3]; whnf))
    | (apply wr_pick (t := false); (iterate 2 exact rfl); with_reducible (conv => enter [6, 3]; whnf))
    | ((first | apply wr_add | apply wr_sub | apply wr_mul); (iterate 3 exact rfl); (first | exact w_fit (by dsimp only [kIn]; first | done | omega) | with_reducible assumption | rfl))
    | (apply wr_conv; (iterate 2 exact rfl); (first | exact w_fit (by dsimp only [kIn]; first | done | omega) | with_reducible assumption | rfl))
    | (apply wr_alloc; exact rfl)
    | (apply wr_extract; (iterate 3 exact rfl); with_reducible (conv => enter [6, 3]; whnf))
    | (apply wr_store; (iterate 3 exact rfl); (first | exact rfl | with_reducible assumption); (focus repeat first | with_reducible assumption | exact heap_alloc_same _ _ | exact World.putObj_heap_same (by first | omega | (simp only [World.size_alloc, World.putObj_size, ne_eq]; omega)) | ((first | refine hAl ?_ ?_ | refine hPu ?_ ?_); focus first | omega | (simp only [World.size_alloc, World.putObj_size, ne_eq]; omega))); exact rfl)
    | (apply wr_cat; (iterate 3 exact rfl); (first | omega | (simp only [List.length_append]; omega)))
    | (apply wr_streqc; (iterate 3 exact rfl); (first | exact decide_eq_true (by with_reducible assumption) | exact decide_eq_false (by with_reducible assumption) | exact decide_eq_true rfl | exact rfl))
    | (apply wr_strnec; (iterate 3 exact rfl); (first | exact decide_eq_true (by with_reducible assumption) | exact decide_eq_false (by with_reducible assumption) | exact decide_eq_true rfl | exact rfl); with_reducible (conv => enter [6, 3]; whnf))
    | (apply wr_bits; exact rfl; (focus (simp; done)); (iterate 2 exact rfl); assumption)
    | (apply wr_eqnil_t; iterate 2 exact rfl)
    | (apply wr_eqnil_f; iterate 2 exact rfl)
    | (apply wr_nenil_f; iterate 2 exact rfl)
    | (apply wr_nenil_t; iterate 2 exact rfl)
    | (apply wc_true; exact rfl)
    | (apply wc_false; exact rfl)
    | (apply wc_exit; try simp only [thenE, inBlockE, bodyQ, ↓reduceIte, Nat.reduceEqDiff])
    | ((first | apply wc_ret | apply wr_nil); try simp only [thenE, inBlockE, bodyQ])
    | (apply wr_skip; exact rfl)
  refine wr_indexAddr (i := 3) rfl rfl rfl (show 3 < 4 by decide) ?_
  refine wr_fieldAddr rfl rfl ?_
  refine wr_load (v := S t) rfl rfl rfl hb6 (cell_elem (g := WF.cs) (k := 4) (i := 3) (j := 3) WF.cs_len hr6 (show 3 < 4 by decide) rfl rfl) ?_
  repeat first
    | ((first | apply wr_move | apply wr_assign); exact rfl; with_reducible (conv => enter [6, 3]; whnf))
    | (first | apply wr_end | apply wc_seq | apply wc_region | apply wc_skip | apply wc_block)
    | ((first | apply wr_fieldAddr | apply wr_not | apply wr_len_str | apply wr_len_slice | apply wr_box); iterate 2 exact rfl)
    | (apply wr_load; (iterate 3 exact rfl); (focus repeat first | with_reducible assumption | exact heap_alloc_same _ _ | exact World.putObj_heap_same (by first | omega | (simp only [World.size_alloc, World.putObj_size, ne_eq]; omega)) | ((first | refine hAl ?_ ?_ | refine hPu ?_ ?_); focus first | omega | (simp only [World.size_alloc, World.putObj_size, ne_eq]; omega))); exact rfl; conv => enter [6, 3]; whnf)
    | (apply wr_cmp; (iterate 3 exact rfl); (first | exact cmpT (by dsimp only [cmpP]; first | done | omega) | exact cmpF (by dsimp only [cmpN]; first | done | omega) | exact cmp_lt _ _ | exact cmp_le _ _ | exact cmp_gt _ _ | exact cmp_ge _ _ | exact cmp_eq _ _ | exact cmp_ne _ _))
    | (apply wr_pick (t := true); (iterate 2 exact rfl); with_reducible (conv => enter [6, 3]; whnf))
    | (apply wr_pick (t := false); (iterate 2 exact rfl); with_reducible (conv => enter [6, 3]; whnf))
    | ((first | apply wr_add | apply wr_sub | apply wr_mul); (iterate 3 exact rfl); (first | exact w_fit (by dsimp only [kIn]; first | done | omega) | with_reducible assumption | rfl))
    | (apply wr_conv; (iterate 2 exact rfl); (first | exact w_fit (by dsimp only [kIn]; first | done | omega) | with_reducible assumption | rfl))
    | (apply wr_alloc; exact rfl)
    | (apply wr_extract; (iterate 3 exact rfl); with_reducible (conv => enter [6, 3]; whnf))
    | (apply wr_store; (iterate 3 exact rfl); (first | exact rfl | with_reducible assumption); (focus repeat first | with_reducible assumption | exact heap_alloc_same _ _ | exact World.putObj_heap_same (by first | omega | (simp only [World.size_alloc, World.putObj_size, ne_eq]; omega)) | ((first | refine hAl ?_ ?_ | refine hPu ?_ ?_); focus first | omega | (simp only [World.size_alloc, World.putObj_size, ne_eq]; omega))); exact rfl)
    | (apply wr_cat; (iterate 3 exact rfl); (first | omega | (simp only [List.length_append]; omega)))
    | (apply wr_streqc; (iterate 3 exact rfl); (first | exact decide_eq_true (by with_reducible assumption) | exact decide_eq_false (by with_reducible assumption) | exact decide_eq_true rfl | exact rfl))
    | (apply wr_strnec; (iterate 3 exact rfl); (first | exact decide_eq_true (by with_reducible assumption) | exact decide_eq_false (by with_reducible assumption) | exact decide_eq_true rfl | exact rfl); with_reducible (conv => enter [6, 3]; whnf))
    | (apply wr_bits; exact rfl; (focus (simp; done)); (iterate 2 exact rfl); assumption)
    | (apply wr_eqnil_t; iterate 2 exact rfl)
    | (apply wr_eqnil_f; iterate 2 exact rfl)
    | (apply wr_nenil_f; iterate 2 exact rfl)
    | (apply wr_nenil_t; iterate 2 exact rfl)
    | (apply wc_true; exact rfl)
    | (apply wc_false; exact rfl)
    | (apply wc_exit; try simp only [thenE, inBlockE, bodyQ, ↓reduceIte, Nat.reduceEqDiff])
    | ((first | apply wc_ret | apply wr_nil); try simp only [thenE, inBlockE, bodyQ])
    | (apply wr_skip; exact rfl)
  refine wr_indexAddr (i := 1) rfl rfl rfl (show 1 < 4 by decide) ?_
  refine wr_fieldAddr rfl rfl ?_
  refine wr_load (v := .int .i64 2) rfl rfl rfl hb6 (cell_elem (g := WF.cs) (k := 4) (i := 1) (j := 1) WF.cs_len hr6 (show 1 < 4 by decide) rfl rfl) ?_
  repeat first
    | ((first | apply wr_move | apply wr_assign); exact rfl; with_reducible (conv => enter [6, 3]; whnf))
    | (first | apply wr_end | apply wc_seq | apply wc_region | apply wc_skip | apply wc_block)
    | ((first | apply wr_fieldAddr | apply wr_not | apply wr_len_str | apply wr_len_slice | apply wr_box); iterate 2 exact rfl)
    | (apply wr_load; (iterate 3 exact rfl); (focus repeat first | with_reducible assumption | exact heap_alloc_same _ _ | exact World.putObj_heap_same (by first | omega | (simp only [World.size_alloc, World.putObj_size, ne_eq]; omega)) | ((first | refine hAl ?_ ?_ | refine hPu ?_ ?_); focus first | omega | (simp only [World.size_alloc, World.putObj_size, ne_eq]; omega))); exact rfl; conv => enter [6, 3]; whnf)
    | (apply wr_cmp; (iterate 3 exact rfl); (first | exact cmpT (by dsimp only [cmpP]; first | done | omega) | exact cmpF (by dsimp only [cmpN]; first | done | omega) | exact cmp_lt _ _ | exact cmp_le _ _ | exact cmp_gt _ _ | exact cmp_ge _ _ | exact cmp_eq _ _ | exact cmp_ne _ _))
    | (apply wr_pick (t := true); (iterate 2 exact rfl); with_reducible (conv => enter [6, 3]; whnf))
    | (apply wr_pick (t := false); (iterate 2 exact rfl); with_reducible (conv => enter [6, 3]; whnf))
    | ((first | apply wr_add | apply wr_sub | apply wr_mul); (iterate 3 exact rfl); (first | exact w_fit (by dsimp only [kIn]; first | done | omega) | with_reducible assumption | rfl))
    | (apply wr_conv; (iterate 2 exact rfl); (first | exact w_fit (by dsimp only [kIn]; first | done | omega) | with_reducible assumption | rfl))
    | (apply wr_alloc; exact rfl)
    | (apply wr_extract; (iterate 3 exact rfl); with_reducible (conv => enter [6, 3]; whnf))
    | (apply wr_store; (iterate 3 exact rfl); (first | exact rfl | with_reducible assumption); (focus repeat first | with_reducible assumption | exact heap_alloc_same _ _ | exact World.putObj_heap_same (by first | omega | (simp only [World.size_alloc, World.putObj_size, ne_eq]; omega)) | ((first | refine hAl ?_ ?_ | refine hPu ?_ ?_); focus first | omega | (simp only [World.size_alloc, World.putObj_size, ne_eq]; omega))); exact rfl)
    | (apply wr_cat; (iterate 3 exact rfl); (first | omega | (simp only [List.length_append]; omega)))
    | (apply wr_streqc; (iterate 3 exact rfl); (first | exact decide_eq_true (by with_reducible assumption) | exact decide_eq_false (by with_reducible assumption) | exact decide_eq_true rfl | exact rfl))
    | (apply wr_strnec; (iterate 3 exact rfl); (first | exact decide_eq_true (by with_reducible assumption) | exact decide_eq_false (by with_reducible assumption) | exact decide_eq_true rfl | exact rfl); with_reducible (conv => enter [6, 3]; whnf))
    | (apply wr_bits; exact rfl; (focus (simp; done)); (iterate 2 exact rfl); assumption)
    | (apply wr_eqnil_t; iterate 2 exact rfl)
    | (apply wr_eqnil_f; iterate 2 exact rfl)
    | (apply wr_nenil_f; iterate 2 exact rfl)
    | (apply wr_nenil_t; iterate 2 exact rfl)
    | (apply wc_true; exact rfl)
    | (apply wc_false; exact rfl)
    | (apply wc_exit; try simp only [thenE, inBlockE, bodyQ, ↓reduceIte, Nat.reduceEqDiff])
    | ((first | apply wc_ret | apply wr_nil); try simp only [thenE, inBlockE, bodyQ])
    | (apply wr_skip; exact rfl)
  refine wr_remN (n := cut) (m := (textF ((K + 1 : Nat) : Int) t).length) rfl rfl rfl hylen ?_
  refine wr_cmp rfl rfl rfl (cmp_eq _ _) ?_
  refine wr_boolEq (c := true) rfl rfl rfl (by
    have key : ∀ j : Nat, (decide (j = 0) == decide ((j : Int) = 0)) = true := fun j => by by_cases h : j = 0 <;> simp [h]
    exact key _) ?_
  repeat first
    | ((first | apply wr_move | apply wr_assign); exact rfl; with_reducible (conv => enter [6, 3]; whnf))
    | (first | apply wr_end | apply wc_seq | apply wc_region | apply wc_skip | apply wc_block)
    | ((first | apply wr_fieldAddr | apply wr_not | apply wr_len_str | apply wr_len_slice | apply wr_box); iterate 2 exact rfl)
    | (apply wr_load; (iterate 3 exact rfl); (focus repeat first | with_reducible assumption | exact heap_alloc_same _ _ | exact World.putObj_heap_same (by first | omega | (simp only [World.size_alloc, World.putObj_size, ne_eq]; omega)) | ((first | refine hAl ?_ ?_ | refine hPu ?_ ?_); focus first | omega | (simp only [World.size_alloc, World.putObj_size, ne_eq]; omega))); exact rfl; conv => enter [6, 3]; whnf)
    | (apply wr_cmp; (iterate 3 exact rfl); (first | exact cmpT (by dsimp only [cmpP]; first | done | omega) | exact cmpF (by dsimp only [cmpN]; first | done | omega) | exact cmp_lt _ _ | exact cmp_le _ _ | exact cmp_gt _ _ | exact cmp_ge _ _ | exact cmp_eq _ _ | exact cmp_ne _ _))
    | (apply wr_pick (t := true); (iterate 2 exact rfl); with_reducible (conv => enter [6, 3]; whnf))
    | (apply wr_pick (t := false); (iterate 2 exact rfl); with_reducible (conv => enter [6, 3]; whnf))
    | ((first | apply wr_add | apply wr_sub | apply wr_mul); (iterate 3 exact rfl); (first | exact w_fit (by dsimp only [kIn]; first | done | omega) | with_reducible assumption | rfl))
    | (apply wr_conv; (iterate 2 exact rfl); (first | exact w_fit (by dsimp only [kIn]; first | done | omega) | with_reducible assumption | rfl))
    | (apply wr_alloc; exact rfl)
    | (apply wr_extract; (iterate 3 exact rfl); with_reducible (conv => enter [6, 3]; whnf))
    | (apply wr_store; (iterate 3 exact rfl); (first | exact rfl | with_reducible assumption); (focus repeat first | with_reducible assumption | exact heap_alloc_same _ _ | exact World.putObj_heap_same (by first | omega | (simp only [World.size_alloc, World.putObj_size, ne_eq]; omega)) | ((first | refine hAl ?_ ?_ | refine hPu ?_ ?_); focus first | omega | (simp only [World.size_alloc, World.putObj_size, ne_eq]; omega))); exact rfl)
    | (apply wr_cat; (iterate 3 exact rfl); (first | omega | (simp only [List.length_append]; omega)))
    | (apply wr_streqc; (iterate 3 exact rfl); (first | exact decide_eq_true (by with_reducible assumption) | exact decide_eq_false (by with_reducible assumption) | exact decide_eq_true rfl | exact rfl))
    | (apply wr_strnec; (iterate 3 exact rfl); (first | exact decide_eq_true (by with_reducible assumption) | exact decide_eq_false (by with_reducible assumption) | exact decide_eq_true rfl | exact rfl); with_reducible (conv => enter [6, 3]; whnf))
    | (apply wr_bits; exact rfl; (focus (simp; done)); (iterate 2 exact rfl); assumption)
    | (apply wr_eqnil_t; iterate 2 exact rfl)
    | (apply wr_eqnil_f; iterate 2 exact rfl)
    | (apply wr_nenil_f; iterate 2 exact rfl)
    | (apply wr_nenil_t; iterate 2 exact rfl)
    | (apply wc_true; exact rfl)
    | (apply wc_false; exact rfl)
    | (apply wc_exit; try simp only [thenE, inBlockE, bodyQ, ↓reduceIte, Nat.reduceEqDiff])
    | ((first | apply wc_ret | apply wr_nil); try simp only [thenE, inBlockE, bodyQ])
    | (apply wr_skip; exact rfl)
  rw [e2]
  refine wr_call (vs := [.slice (some ⟨b6, o6, none⟩) 4 cl, .int .i64 ((K + 1 : Nat) : Int)]) rfl (all_ca _ ((K + 1 : Nat) : Int) _ _ hsl9 (by simp)) rfl ?_
  rintro v w10 ⟨ho, hk10⟩
  rw [hall] at ho
  obtain ⟨aa, ca, rfl, hca, -⟩ := (SlR.of_own ho).shape
  repeat first
    | ((first | apply wr_move | apply wr_assign); exact rfl; with_reducible (conv => enter [6, 3]; whnf))
    | (first | apply wr_end | apply wc_seq | apply wc_region | apply wc_skip | apply wc_block)
    | ((first | apply wr_fieldAddr | apply wr_not | apply wr_len_str | apply wr_len_slice | apply wr_box); iterate 2 exact rfl)
    | (apply wr_load; (iterate 3 exact rfl); (focus repeat first | with_reducible assumption | exact heap_alloc_same _ _ | exact World.putObj_heap_same (by first | omega | (simp only [World.size_alloc, World.putObj_size, ne_eq]; omega)) | ((first | refine hAl ?_ ?_ | refine hPu ?_ ?_); focus first | omega | (simp only [World.size_alloc, World.putObj_size, ne_eq]; omega))); exact rfl; conv => enter [6, 3]; whnf)
    | (apply wr_cmp; (iterate 3 exact rfl); (first | exact cmpT (by dsimp only [cmpP]; first | done | omega) | exact cmpF (by dsimp only [cmpN]; first | done | omega) | exact cmp_lt _ _ | exact cmp_le _ _ | exact cmp_gt _ _ | exact cmp_ge _ _ | exact cmp_eq _ _ | exact cmp_ne _ _))
    | (apply wr_pick (t := true); (iterate 2 exact rfl); with_reducible (conv => enter [6, 3]; whnf))
    | (apply wr_pick (t := false); (iterate 2 exact rfl); with_reducible (conv => enter [6, 3]; whnf))
    | ((first | apply wr_add | apply wr_sub | apply wr_mul); (iterate 3 exact rfl); (first | exact w_fit (by dsimp only [kIn]; first | done | omega) | with_reducible assumption | rfl))
    | (apply wr_conv; (iterate 2 exact rfl); (first | exact w_fit (by dsimp only [kIn]; first | done | omega) | with_reducible assumption | rfl))
    | (apply wr_alloc; exact rfl)
    | (apply wr_extract; (iterate 3 exact rfl); with_reducible (conv => enter [6, 3]; whnf))
    | (apply wr_store; (iterate 3 exact rfl); (first | exact rfl | with_reducible assumption); (focus repeat first | with_reducible assumption | exact heap_alloc_same _ _ | exact World.putObj_heap_same (by first | omega | (simp only [World.size_alloc, World.putObj_size, ne_eq]; omega)) | ((first | refine hAl ?_ ?_ | refine hPu ?_ ?_); focus first | omega | (simp only [World.size_alloc, World.putObj_size, ne_eq]; omega))); exact rfl)
    | (apply wr_cat; (iterate 3 exact rfl); (first | omega | (simp only [List.length_append]; omega)))
    | (apply wr_streqc; (iterate 3 exact rfl); (first | exact decide_eq_true (by with_reducible assumption) | exact decide_eq_false (by with_reducible assumption) | exact decide_eq_true rfl | exact rfl))
    | (apply wr_strnec; (iterate 3 exact rfl); (first | exact decide_eq_true (by with_reducible assumption) | exact decide_eq_false (by with_reducible assumption) | exact decide_eq_true rfl | exact rfl); with_reducible (conv => enter [6, 3]; whnf))
    | (apply wr_bits; exact rfl; (focus (simp; done)); (iterate 2 exact rfl); assumption)
    | (apply wr_eqnil_t; iterate 2 exact rfl)
    | (apply wr_eqnil_f; iterate 2 exact rfl)
    | (apply wr_nenil_f; iterate 2 exact rfl)
    | (apply wr_nenil_t; iterate 2 exact rfl)
    | (apply wc_true; exact rfl)
    | (apply wc_false; exact rfl)
    | (apply wc_exit; try simp only [thenE, inBlockE, bodyQ, ↓reduceIte, Nat.reduceEqDiff])
    | ((first | apply wc_ret | apply wr_nil); try simp only [thenE, inBlockE, bodyQ])
    | (apply wr_skip; exact rfl)
  exact leave1 (v := .bool true) rfl rfl ⟨rfl, hk9.trans hk10⟩
end Go.Proofs.YtpilcnkgpgkboaaDoor
