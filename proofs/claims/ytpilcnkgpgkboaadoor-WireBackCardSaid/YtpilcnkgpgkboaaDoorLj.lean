/- norialaw01.WireJoins: it is true. -/
import Derived.Test.YtpilcnkgpgkboaaDoorPa
import Derived.Test.YtpilcnkgpgkboaaDoorVB
namespace Go.Proofs.YtpilcnkgpgkboaaDoor
open Go Go.V Go.RowKit
set_option linter.unusedVariables false
set_option linter.unusedSimpArgs false

theorem parseR_get {s : List UInt8} {w w' : World} {v : Value} (h : parseR s w v w') : ∃ sl, v = .tuple #[sl, .bool (parseF s).isSome] ∧ SlR w' 4 sl ((parseF s).getD []).length (FL ((parseF s).getD [])) := by
  unfold parseR at h
  cases hp : parseF s with
  | some l =>
    rw [hp] at h
    obtain ⟨sl, rfl, ho⟩ := h
    exact ⟨sl, rfl, SlR.of_own ho⟩
  | none =>
    rw [hp] at h
    exact ⟨.slice none 0 0, h, rfl, none, 0, rfl, Nat.le_refl _, .inl ⟨rfl, fun _ => rfl⟩⟩
theorem numberF_len (num : Int) {n : Nat} (hn : n < 18446744073709551616) : (numberF num n).length ≤ 20 := by
  by_cases h : 1 ≤ num ∧ num < 536870912
  · rw [numberF_eq h, List.length_append]
    have h1 := varint_len (num * 8).toNat (by omega)
    have h2 := varint_len n hn
    omega
  · rw [numberF_no h]; simp
theorem wf_stood : Tryd.prog.stoodInHeld 29 = false := by kernel_rfl
theorem wf_guard : Tryd.prog.eqGuardType Tryd.prog.depth 29 = false := by kernel_rfl
theorem wf_eqOk (x y : WF) (w : World) : EqOk Tryd.prog w 9999 #[.int .i64 x.num, .int .i64 x.kind, .int .u64 (x.n : Int), S x.s] #[.int .i64 y.num, .int .i64 y.kind, .int .u64 (y.n : Int), S y.s]
    [⟨"Num", 3, 0, false, "", "", 0⟩, ⟨"Kind", 3, 1, false, "", "", 8⟩, ⟨"N", 22, 2, false, "", "", 16⟩, ⟨"S", 9, 3, false, "", "", 24⟩]
    [decide (x.num = y.num), decide (x.kind = y.kind), decide ((x.n : Int) = (y.n : Int)), decide (x.s = y.s)] :=
  ⟨⟨by decide, _, _, run_part1 Tryd.underlying3 rfl rfl, run_part1 Tryd.underlying3 rfl rfl, equalIn_int 9998 inferInstance _ _ _⟩,
   ⟨by decide, _, _, run_part1 Tryd.underlying3 rfl rfl, run_part1 Tryd.underlying3 rfl rfl, equalIn_int 9998 inferInstance _ _ _⟩,
   ⟨by decide, _, _, run_part1 Tryd.underlying22 rfl rfl, run_part1 Tryd.underlying22 rfl rfl, equalIn_int 9998 inferInstance _ _ _⟩,
   ⟨by decide, _, _, run_part1 Tryd.underlying9 rfl rfl, run_part1 Tryd.underlying9 rfl rfl, equalIn_str 9998 inferInstance _ _ _⟩, trivial⟩
set_option maxRecDepth 100000 in
set_option maxHeartbeats 4000000 in
theorem wireJoins_ca {p q : Addr} {w : World} (hg : Glo w p q) (s : List UInt8) (a b : Nat) (ha : a < 18446744073709551616) (hb : b < 18446744073709551616) (hs : s.length ≤ 1048576) :
    Ca Tryd.prog 5 #[S s, .int .u64 (a : Int), .int .u64 (b : Int)] w fun v w' => v = .bool true ∧ Keeps NoB w w' := by
  refine ca_of_body (args := [S s, .int .u64 (a : Int), .int .u64 (b : Int)]) Tryd.func5 rfl (by kernel_rfl) ?_
  repeat first
    | ((first | apply wr_move | apply wr_assign); exact rfl; with_reducible (conv => enter [6, 3]; whnf))
    | (first | apply wr_end | apply wc_seq | apply wc_region | apply wc_skip | apply wc_block)
    | ((first | apply wr_fieldAddr | apply wr_not | apply wr_len_str | apply wr_len_slice | apply wr_box); iterate 2 exact rfl)
    | (apply wr_load; (iterate 3 exact rfl); (focus repeat first | with_reducible assumption | exact heap_alloc_same _ _ | exact World.putObj_heap_same (by first | omega | (simp only [World.size_alloc, World.putObj_size, ne_eq]; omega)) | ((first | refine hAl ?_ ?_ | refine hPu ?_ ?_); focus first | omega | (simp only [World.size_alloc, World.putObj_size, ne_eq]; omega))); exact rfl; conv => enter [6, 3]; whnf)
    | (apply wr_cmp; (iterate 3 exact rfl); (first | exact cmpT (by dsimp only [cmpP]; first | done | omega) | exact cmpF (by dsimp only [cmpN]; first | done | omega) | exact cmp_lt _ _ | exact cmp_le _ _ | exact cmp_gt _ _ | exact cmp_ge _ _ | exact cmp_eq _ _ | exact cmp_ne _ _))
    | (apply wr_pick (t := true); (iterate 2 exact rfl); with_reducible (conv => enter [6, 3]; whnf))
    | (apply wr_pick (t := false); (iterate 2 exact rfl); with_reducible (conv => enter [6, 3]; whnf))
    | ((first | apply wr_add | apply wr_sub | apply wr_mul); (iterate 3 exact rfl); (first | exact w_fit (by dsimp only [kIn]; first | done | omega) | with_reducible assumption | rfl))
    | (apply wr_conv; (iterate 2 exact rfl); (first | exact w_fit (by dsimp only [kIn]; first | done | omega) | with_reducible assumption | rfl))
    | (apply wr_alloc; exact rfl)
    | (apply wr_extract; (iterate 3 exact rfl); with_reducible (conv => enter [6, 3]; whnf))
    | (apply wr_store; (iterate 3 exact rfl); (first | exact rfl | with_reducible assumption); (focus repeat first | with_reducible assumption | exact heap_alloc_same _ _ | exact World.putObj_heap_same (by first | omega | (simp only [World.size_alloc, World.putObj_size, ne_eq]; omega)) | ((first | refine hAl ?_ ?_ | refine hPu ?_ ?_); focus first | omega | (simp only [World.size_alloc, World.putObj_size, ne_eq]; omega))); exact rfl)
    | (apply wr_cat; (iterate 3 exact rfl); (first | omega | (simp only [List.length_append]; omega)))
    | (apply wr_streqc; (iterate 3 exact rfl); (first | exact decide_eq_true (by with_reducible assumption) | exact decide_eq_false (by with_reducible assumption) | exact decide_eq_true rfl | exact rfl))
    | (apply wr_strnec; (iterate 3 exact rfl); (first | exact decide_eq_true (by with_reducible assumption) | exact decide_eq_false (by with_reducible assumption) | exact decide_eq_true rfl | exact rfl); with_reducible (conv => enter [6, 3]; whnf))
    | (apply wr_bits; exact rfl; (focus (simp; done)); (iterate 2 exact rfl); assumption)
    | (apply wr_eqnil_t; iterate 2 exact rfl)
    | (apply wr_eqnil_f; iterate 2 exact rfl)
    | (apply wr_nenil_f; iterate 2 exact rfl)
    | (apply wr_nenil_t; iterate 2 exact rfl)
    | (apply wc_true; exact rfl)
    | (apply wc_false; exact rfl)
    | (apply wc_exit; try simp only [thenE, inBlockE, bodyQ, ↓reduceIte, Nat.reduceEqDiff])
    | ((first | apply wc_ret | apply wr_nil); try simp only [thenE, inBlockE, bodyQ])
    | (apply wr_skip; exact rfl)
  refine wr_call (vs := []) rfl (examples_ca hg) rfl ?_
  rintro v w1 ⟨rfl, hk1⟩
  have hg1 := hg.keep hk1 (fun i hi h => h)
  repeat first
    | ((first | apply wr_move | apply wr_assign); exact rfl; with_reducible (conv => enter [6, 3]; whnf))
    | (first | apply wr_end | apply wc_seq | apply wc_region | apply wc_skip | apply wc_block)
    | ((first | apply wr_fieldAddr | apply wr_not | apply wr_len_str | apply wr_len_slice | apply wr_box); iterate 2 exact rfl)
    | (apply wr_load; (iterate 3 exact rfl); (focus repeat first | with_reducible assumption | exact heap_alloc_same _ _ | exact World.putObj_heap_same (by first | omega | (simp only [World.size_alloc, World.putObj_size, ne_eq]; omega)) | ((first | refine hAl ?_ ?_ | refine hPu ?_ ?_); focus first | omega | (simp only [World.size_alloc, World.putObj_size, ne_eq]; omega))); exact rfl; conv => enter [6, 3]; whnf)
    | (apply wr_cmp; (iterate 3 exact rfl); (first | exact cmpT (by dsimp only [cmpP]; first | done | omega) | exact cmpF (by dsimp only [cmpN]; first | done | omega) | exact cmp_lt _ _ | exact cmp_le _ _ | exact cmp_gt _ _ | exact cmp_ge _ _ | exact cmp_eq _ _ | exact cmp_ne _ _))
    | (apply wr_pick (t := true); (iterate 2 exact rfl); with_reducible (conv => enter [6, 3]; whnf))
    | (apply wr_pick (t := false); (iterate 2 exact rfl); with_reducible (conv => enter [6, 3]; whnf))
    | ((first | apply wr_add | apply wr_sub | apply wr_mul); (iterate 3 exact rfl); (first | exact w_fit (by dsimp only [kIn]; first | done | omega) | with_reducible assumption | rfl))
    | (apply wr_conv; (iterate 2 exact rfl); (first | exact w_fit (by dsimp only [kIn]; first | done | omega) | with_reducible assumption | rfl))
    | (apply wr_alloc; exact rfl)
    | (apply wr_extract; (iterate 3 exact rfl); with_reducible (conv => enter [6, 3]; whnf))
    | (apply wr_store; (iterate 3 exact rfl); (first | exact rfl | with_reducible assumption); (focus repeat first | with_reducible assumption | exact heap_alloc_same _ _ | exact World.putObj_heap_same (by first | omega | (simp only [World.size_alloc, World.putObj_size, ne_eq]; omega)) | ((first | refine hAl ?_ ?_ | refine hPu ?_ ?_); focus first | omega | (simp only [World.size_alloc, World.putObj_size, ne_eq]; omega))); exact rfl)
    | (apply wr_cat; (iterate 3 exact rfl); (first | omega | (simp only [List.length_append]; omega)))
    | (apply wr_streqc; (iterate 3 exact rfl); (first | exact decide_eq_true (by with_reducible assumption) | exact decide_eq_false (by with_reducible assumption) | exact decide_eq_true rfl | exact rfl))
    | (apply wr_strnec; (iterate 3 exact rfl); (first | exact decide_eq_true (by with_reducible assumption) | exact decide_eq_false (by with_reducible assumption) | exact decide_eq_true rfl | exact rfl); with_reducible (conv => enter [6, 3]; whnf))
    | (apply wr_bits; exact rfl; (focus (simp; done)); (iterate 2 exact rfl); assumption)
    | (apply wr_eqnil_t; iterate 2 exact rfl)
    | (apply wr_eqnil_f; iterate 2 exact rfl)
    | (apply wr_nenil_f; iterate 2 exact rfl)
    | (apply wr_nenil_t; iterate 2 exact rfl)
    | (apply wc_true; exact rfl)
    | (apply wc_false; exact rfl)
    | (apply wc_exit; try simp only [thenE, inBlockE, bodyQ, ↓reduceIte, Nat.reduceEqDiff])
    | ((first | apply wc_ret | apply wr_nil); try simp only [thenE, inBlockE, bodyQ])
    | (apply wr_skip; exact rfl)
  refine wr_call (vs := [S s]) rfl (parse_ca s (by omega) hg1) rfl ?_
  rintro v w2 ⟨hv, hk2⟩
  obtain ⟨sl, rfl, hsl⟩ := parseR_get hv
  clear hv
  have hg2 := hg1.keep hk2 (fun i hi h => h)
  repeat first
    | ((first | apply wr_move | apply wr_assign); exact rfl; with_reducible (conv => enter [6, 3]; whnf))
    | (first | apply wr_end | apply wc_seq | apply wc_region | apply wc_skip | apply wc_block)
    | ((first | apply wr_fieldAddr | apply wr_not | apply wr_len_str | apply wr_len_slice | apply wr_box); iterate 2 exact rfl)
    | (apply wr_load; (iterate 3 exact rfl); (focus repeat first | with_reducible assumption | exact heap_alloc_same _ _ | exact World.putObj_heap_same (by first | omega | (simp only [World.size_alloc, World.putObj_size, ne_eq]; omega)) | ((first | refine hAl ?_ ?_ | refine hPu ?_ ?_); focus first | omega | (simp only [World.size_alloc, World.putObj_size, ne_eq]; omega))); exact rfl; conv => enter [6, 3]; whnf)
    | (apply wr_cmp; (iterate 3 exact rfl); (first | exact cmpT (by dsimp only [cmpP]; first | done | omega) | exact cmpF (by dsimp only [cmpN]; first | done | omega) | exact cmp_lt _ _ | exact cmp_le _ _ | exact cmp_gt _ _ | exact cmp_ge _ _ | exact cmp_eq _ _ | exact cmp_ne _ _))
    | (apply wr_pick (t := true); (iterate 2 exact rfl); with_reducible (conv => enter [6, 3]; whnf))
    | (apply wr_pick (t := false); (iterate 2 exact rfl); with_reducible (conv => enter [6, 3]; whnf))
    | ((first | apply wr_add | apply wr_sub | apply wr_mul); (iterate 3 exact rfl); (first | exact w_fit (by dsimp only [kIn]; first | done | omega) | with_reducible assumption | rfl))
    | (apply wr_conv; (iterate 2 exact rfl); (first | exact w_fit (by dsimp only [kIn]; first | done | omega) | with_reducible assumption | rfl))
    | (apply wr_alloc; exact rfl)
    | (apply wr_extract; (iterate 3 exact rfl); with_reducible (conv => enter [6, 3]; whnf))
    | (apply wr_store; (iterate 3 exact rfl); (first | exact rfl | with_reducible assumption); (focus repeat first | with_reducible assumption | exact heap_alloc_same _ _ | exact World.putObj_heap_same (by first | omega | (simp only [World.size_alloc, World.putObj_size, ne_eq]; omega)) | ((first | refine hAl ?_ ?_ | refine hPu ?_ ?_); focus first | omega | (simp only [World.size_alloc, World.putObj_size, ne_eq]; omega))); exact rfl)
    | (apply wr_cat; (iterate 3 exact rfl); (first | omega | (simp only [List.length_append]; omega)))
    | (apply wr_streqc; (iterate 3 exact rfl); (first | exact decide_eq_true (by with_reducible assumption) | exact decide_eq_false (by with_reducible assumption) | exact decide_eq_true rfl | exact rfl))
    | (apply wr_strnec; (iterate 3 exact rfl); (first | exact decide_eq_true (by with_reducible assumption) | exact decide_eq_false (by with_reducible assumption) | exact decide_eq_true rfl | exact rfl); with_reducible (conv => enter [6, 3]; whnf))
    | (apply wr_bits; exact rfl; (focus (simp; done)); (iterate 2 exact rfl); assumption)
    | (apply wr_eqnil_t; iterate 2 exact rfl)
    | (apply wr_eqnil_f; iterate 2 exact rfl)
    | (apply wr_nenil_f; iterate 2 exact rfl)
    | (apply wr_nenil_t; iterate 2 exact rfl)
    | (apply wc_true; exact rfl)
    | (apply wc_false; exact rfl)
    | (apply wc_exit; try simp only [thenE, inBlockE, bodyQ, ↓reduceIte, Nat.reduceEqDiff])
    | ((first | apply wc_ret | apply wr_nil); try simp only [thenE, inBlockE, bodyQ])
    | (apply wr_skip; exact rfl)
  refine wr_call (vs := [.int .i64 3, .int .u64 (a : Int)]) rfl (number_ca 3 a (by decide) ha _) rfl ?_
  rintro v w3 ⟨rfl, hk3⟩
  repeat first
    | ((first | apply wr_move | apply wr_assign); exact rfl; with_reducible (conv => enter [6, 3]; whnf))
    | (first | apply wr_end | apply wc_seq | apply wc_region | apply wc_skip | apply wc_block)
    | ((first | apply wr_fieldAddr | apply wr_not | apply wr_len_str | apply wr_len_slice | apply wr_box); iterate 2 exact rfl)
    | (apply wr_load; (iterate 3 exact rfl); (focus repeat first | with_reducible assumption | exact heap_alloc_same _ _ | exact World.putObj_heap_same (by first | omega | (simp only [World.size_alloc, World.putObj_size, ne_eq]; omega)) | ((first | refine hAl ?_ ?_ | refine hPu ?_ ?_); focus first | omega | (simp only [World.size_alloc, World.putObj_size, ne_eq]; omega))); exact rfl; conv => enter [6, 3]; whnf)
    | (apply wr_cmp; (iterate 3 exact rfl); (first | exact cmpT (by dsimp only [cmpP]; first | done | omega) | exact cmpF (by dsimp only [cmpN]; first | done | omega) | exact cmp_lt _ _ | exact cmp_le _ _ | exact cmp_gt _ _ | exact cmp_ge _ _ | exact cmp_eq _ _ | exact cmp_ne _ _))
    | (apply wr_pick (t := true); (iterate 2 exact rfl); with_reducible (conv => enter [6, 3]; whnf))
    | (apply wr_pick (t := false); (iterate 2 exact rfl); with_reducible (conv => enter [6, 3]; whnf))
    | ((first | apply wr_add | apply wr_sub | apply wr_mul); (iterate 3 exact rfl); (first | exact w_fit (by dsimp only [kIn]; first | done | omega) | with_reducible assumption | rfl))
    | (apply wr_conv; (iterate 2 exact rfl); (first | exact w_fit (by dsimp only [kIn]; first | done | omega) | with_reducible assumption | rfl))
    | (apply wr_alloc; exact rfl)
    | (apply wr_extract; (iterate 3 exact rfl); with_reducible (conv => enter [6, 3]; whnf))
    | (apply wr_store; (iterate 3 exact rfl); (first | exact rfl | with_reducible assumption); (focus repeat first | with_reducible assumption | exact heap_alloc_same _ _ | exact World.putObj_heap_same (by first | omega | (simp only [World.size_alloc, World.putObj_size, ne_eq]; omega)) | ((first | refine hAl ?_ ?_ | refine hPu ?_ ?_); focus first | omega | (simp only [World.size_alloc, World.putObj_size, ne_eq]; omega))); exact rfl)
    | (apply wr_cat; (iterate 3 exact rfl); (first | omega | (simp only [List.length_append]; omega)))
    | (apply wr_streqc; (iterate 3 exact rfl); (first | exact decide_eq_true (by with_reducible assumption) | exact decide_eq_false (by with_reducible assumption) | exact decide_eq_true rfl | exact rfl))
    | (apply wr_strnec; (iterate 3 exact rfl); (first | exact decide_eq_true (by with_reducible assumption) | exact decide_eq_false (by with_reducible assumption) | exact decide_eq_true rfl | exact rfl); with_reducible (conv => enter [6, 3]; whnf))
    | (apply wr_bits; exact rfl; (focus (simp; done)); (iterate 2 exact rfl); assumption)
    | (apply wr_eqnil_t; iterate 2 exact rfl)
    | (apply wr_eqnil_f; iterate 2 exact rfl)
    | (apply wr_nenil_f; iterate 2 exact rfl)
    | (apply wr_nenil_t; iterate 2 exact rfl)
    | (apply wc_true; exact rfl)
    | (apply wc_false; exact rfl)
    | (apply wc_exit; try simp only [thenE, inBlockE, bodyQ, ↓reduceIte, Nat.reduceEqDiff])
    | ((first | apply wc_ret | apply wr_nil); try simp only [thenE, inBlockE, bodyQ])
    | (apply wr_skip; exact rfl)
  refine wr_call (vs := [.int .i64 4, .int .u64 (b : Int)]) rfl (number_ca 4 b (by decide) hb _) rfl ?_
  rintro v w4 ⟨rfl, hk4⟩
  have hl3 := numberF_len 3 ha
  have hl4 := numberF_len 4 hb
  have hk34 := hk3.trans hk4
  have hg4 := hg2.keep hk34 (fun i hi h => h)
  obtain ⟨more, hmore⟩ : ∃ more, more = numberF 3 a ++ numberF 4 b := ⟨_, rfl⟩
  have hml : more.length ≤ 40 := by rw [hmore, List.length_append]; omega
  have hpm : parseF more = some [⟨3, 0, a, []⟩, ⟨4, 0, b, []⟩] := by
    rw [hmore, parse_number (by decide) ha, ← List.append_nil (numberF 4 b), parse_number (by decide) hb, parseF_nil]; rfl
  refine wr_cat rfl rfl rfl (by omega) ?_
  rw [← hmore]
  clear hl3 hl4
  repeat first
    | ((first | apply wr_move | apply wr_assign); exact rfl; with_reducible (conv => enter [6, 3]; whnf))
    | (first | apply wr_end | apply wc_seq | apply wc_region | apply wc_skip | apply wc_block)
    | ((first | apply wr_fieldAddr | apply wr_not | apply wr_len_str | apply wr_len_slice | apply wr_box); iterate 2 exact rfl)
    | (apply wr_load; (iterate 3 exact rfl); (focus repeat first | with_reducible assumption | exact heap_alloc_same _ _ | exact World.putObj_heap_same (by first | omega | (simp only [World.size_alloc, World.putObj_size, ne_eq]; omega)) | ((first | refine hAl ?_ ?_ | refine hPu ?_ ?_); focus first | omega | (simp only [World.size_alloc, World.putObj_size, ne_eq]; omega))); exact rfl; conv => enter [6, 3]; whnf)
    | (apply wr_cmp; (iterate 3 exact rfl); (first | exact cmpT (by dsimp only [cmpP]; first | done | omega) | exact cmpF (by dsimp only [cmpN]; first | done | omega) | exact cmp_lt _ _ | exact cmp_le _ _ | exact cmp_gt _ _ | exact cmp_ge _ _ | exact cmp_eq _ _ | exact cmp_ne _ _))
    | (apply wr_pick (t := true); (iterate 2 exact rfl); with_reducible (conv => enter [6, 3]; whnf))
    | (apply wr_pick (t := false); (iterate 2 exact rfl); with_reducible (conv => enter [6, 3]; whnf))
    | ((first | apply wr_add | apply wr_sub | apply wr_mul); (iterate 3 exact rfl); (first | exact w_fit (by dsimp only [kIn]; first | done | omega) | with_reducible assumption | rfl))
    | (apply wr_conv; (iterate 2 exact rfl); (first | exact w_fit (by dsimp only [kIn]; first | done | omega) | with_reducible assumption | rfl))
    | (apply wr_alloc; exact rfl)
    | (apply wr_extract; (iterate 3 exact rfl); with_reducible (conv => enter [6, 3]; whnf))
    | (apply wr_store; (iterate 3 exact rfl); (first | exact rfl | with_reducible assumption); (focus repeat first | with_reducible assumption | exact heap_alloc_same _ _ | exact World.putObj_heap_same (by first | omega | (simp only [World.size_alloc, World.putObj_size, ne_eq]; omega)) | ((first | refine hAl ?_ ?_ | refine hPu ?_ ?_); focus first | omega | (simp only [World.size_alloc, World.putObj_size, ne_eq]; omega))); exact rfl)
    | (apply wr_cat; (iterate 3 exact rfl); (first | omega | (simp only [List.length_append]; omega)))
    | (apply wr_streqc; (iterate 3 exact rfl); (first | exact decide_eq_true (by with_reducible assumption) | exact decide_eq_false (by with_reducible assumption) | exact decide_eq_true rfl | exact rfl))
    | (apply wr_strnec; (iterate 3 exact rfl); (first | exact decide_eq_true (by with_reducible assumption) | exact decide_eq_false (by with_reducible assumption) | exact decide_eq_true rfl | exact rfl); with_reducible (conv => enter [6, 3]; whnf))
    | (apply wr_bits; exact rfl; (focus (simp; done)); (iterate 2 exact rfl); assumption)
    | (apply wr_eqnil_t; iterate 2 exact rfl)
    | (apply wr_eqnil_f; iterate 2 exact rfl)
    | (apply wr_nenil_f; iterate 2 exact rfl)
    | (apply wr_nenil_t; iterate 2 exact rfl)
    | (apply wc_true; exact rfl)
    | (apply wc_false; exact rfl)
    | (apply wc_exit; try simp only [thenE, inBlockE, bodyQ, ↓reduceIte, Nat.reduceEqDiff])
    | ((first | apply wc_ret | apply wr_nil); try simp only [thenE, inBlockE, bodyQ])
    | (apply wr_skip; exact rfl)
  refine wr_call (vs := [S (s ++ more)]) rfl (parse_ca (s ++ more) (by rw [List.length_append]; omega) hg4) rfl ?_
  rintro v w5 ⟨hv, hk5⟩
  obtain ⟨sm, rfl, hsm⟩ := parseR_get hv
  clear hv
  have hg5 := hg4.keep hk5 (fun i hi h => h)
  repeat first
    | ((first | apply wr_move | apply wr_assign); exact rfl; with_reducible (conv => enter [6, 3]; whnf))
    | (first | apply wr_end | apply wc_seq | apply wc_region | apply wc_skip | apply wc_block)
    | ((first | apply wr_fieldAddr | apply wr_not | apply wr_len_str | apply wr_len_slice | apply wr_box); iterate 2 exact rfl)
    | (apply wr_load; (iterate 3 exact rfl); (focus repeat first | with_reducible assumption | exact heap_alloc_same _ _ | exact World.putObj_heap_same (by first | omega | (simp only [World.size_alloc, World.putObj_size, ne_eq]; omega)) | ((first | refine hAl ?_ ?_ | refine hPu ?_ ?_); focus first | omega | (simp only [World.size_alloc, World.putObj_size, ne_eq]; omega))); exact rfl; conv => enter [6, 3]; whnf)
    | (apply wr_cmp; (iterate 3 exact rfl); (first | exact cmpT (by dsimp only [cmpP]; first | done | omega) | exact cmpF (by dsimp only [cmpN]; first | done | omega) | exact cmp_lt _ _ | exact cmp_le _ _ | exact cmp_gt _ _ | exact cmp_ge _ _ | exact cmp_eq _ _ | exact cmp_ne _ _))
    | (apply wr_pick (t := true); (iterate 2 exact rfl); with_reducible (conv => enter [6, 3]; whnf))
    | (apply wr_pick (t := false); (iterate 2 exact rfl); with_reducible (conv => enter [6, 3]; whnf))
    | ((first | apply wr_add | apply wr_sub | apply wr_mul); (iterate 3 exact rfl); (first | exact w_fit (by dsimp only [kIn]; first | done | omega) | with_reducible assumption | rfl))
    | (apply wr_conv; (iterate 2 exact rfl); (first | exact w_fit (by dsimp only [kIn]; first | done | omega) | with_reducible assumption | rfl))
    | (apply wr_alloc; exact rfl)
    | (apply wr_extract; (iterate 3 exact rfl); with_reducible (conv => enter [6, 3]; whnf))
    | (apply wr_store; (iterate 3 exact rfl); (first | exact rfl | with_reducible assumption); (focus repeat first | with_reducible assumption | exact heap_alloc_same _ _ | exact World.putObj_heap_same (by first | omega | (simp only [World.size_alloc, World.putObj_size, ne_eq]; omega)) | ((first | refine hAl ?_ ?_ | refine hPu ?_ ?_); focus first | omega | (simp only [World.size_alloc, World.putObj_size, ne_eq]; omega))); exact rfl)
    | (apply wr_cat; (iterate 3 exact rfl); (first | omega | (simp only [List.length_append]; omega)))
    | (apply wr_streqc; (iterate 3 exact rfl); (first | exact decide_eq_true (by with_reducible assumption) | exact decide_eq_false (by with_reducible assumption) | exact decide_eq_true rfl | exact rfl))
    | (apply wr_strnec; (iterate 3 exact rfl); (first | exact decide_eq_true (by with_reducible assumption) | exact decide_eq_false (by with_reducible assumption) | exact decide_eq_true rfl | exact rfl); with_reducible (conv => enter [6, 3]; whnf))
    | (apply wr_bits; exact rfl; (focus (simp; done)); (iterate 2 exact rfl); assumption)
    | (apply wr_eqnil_t; iterate 2 exact rfl)
    | (apply wr_eqnil_f; iterate 2 exact rfl)
    | (apply wr_nenil_f; iterate 2 exact rfl)
    | (apply wr_nenil_t; iterate 2 exact rfl)
    | (apply wc_true; exact rfl)
    | (apply wc_false; exact rfl)
    | (apply wc_exit; try simp only [thenE, inBlockE, bodyQ, ↓reduceIte, Nat.reduceEqDiff])
    | ((first | apply wc_ret | apply wr_nil); try simp only [thenE, inBlockE, bodyQ])
    | (apply wr_skip; exact rfl)
  refine wr_call (vs := [S (more ++ s)]) rfl (parse_ca (more ++ s) (by rw [List.length_append]; omega) hg5) rfl ?_
  rintro v w6 ⟨hv, hk6⟩
  obtain ⟨sn, rfl, hsn⟩ := parseR_get hv
  clear hv
  have hsl6 := hsl.keep (hk34.trans (hk5.trans hk6)) (fun _ _ h => h)
  have hsm6 := hsm.keep hk6 (fun _ _ h => h)
  have hk := hk1.trans (hk2.trans (hk34.trans (hk5.trans hk6)))
  rw [parse_append hpm s] at hsn ⊢
  clear hsl hsm hk1 hk2 hk3 hk4 hk34 hk5 hk6 hg1 hg2 hg4 hg5
  cases hps : parseF s with
  | none =>
    rw [hps] at hsl6 hsn
    obtain ⟨al, cl, rfl, hcl, -⟩ := hsl6.shape
    obtain ⟨an, cn, rfl, hcn, -⟩ := hsn.shape
    repeat first
      | ((first | apply wr_move | apply wr_assign); exact rfl; with_reducible (conv => enter [6, 3]; whnf))
      | (first | apply wr_end | apply wc_seq | apply wc_region | apply wc_skip | apply wc_block)
      | ((first | apply wr_fieldAddr | apply wr_not | apply wr_len_str | apply wr_len_slice | apply wr_box); iterate 2 exact rfl)
      | (apply wr_load; (iterate 3 exact rfl); (focus repeat first | with_reducible assumption | exact heap_alloc_same _ _ | exact World.putObj_heap_same (by first | omega | (simp only [World.size_alloc, World.putObj_size, ne_eq]; omega)) | ((first | refine hAl ?_ ?_ | refine hPu ?_ ?_); focus first | omega | (simp only [World.size_alloc, World.putObj_size, ne_eq]; omega))); exact rfl; conv => enter [6, 3]; whnf)
      | (apply wr_cmp; (iterate 3 exact rfl); (first | exact cmpT (by dsimp only [cmpP]; first | done | omega) | exact cmpF (by dsimp only [cmpN]; first | done | omega) | exact cmp_lt _ _ | exact cmp_le _ _ | exact cmp_gt _ _ | exact cmp_ge _ _ | exact cmp_eq _ _ | exact cmp_ne _ _))
      | (apply wr_pick (t := true); (iterate 2 exact rfl); with_reducible (conv => enter [6, 3]; whnf))
      | (apply wr_pick (t := false); (iterate 2 exact rfl); with_reducible (conv => enter [6, 3]; whnf))
      | ((first | apply wr_add | apply wr_sub | apply wr_mul); (iterate 3 exact rfl); (first | exact w_fit (by dsimp only [kIn]; first | done | omega) | with_reducible assumption | rfl))
      | (apply wr_conv; (iterate 2 exact rfl); (first | exact w_fit (by dsimp only [kIn]; first | done | omega) | with_reducible assumption | rfl))
      | (apply wr_alloc; exact rfl)
      | (apply wr_extract; (iterate 3 exact rfl); with_reducible (conv => enter [6, 3]; whnf))
      | (apply wr_store; (iterate 3 exact rfl); (first | exact rfl | with_reducible assumption); (focus repeat first | with_reducible assumption | exact heap_alloc_same _ _ | exact World.putObj_heap_same (by first | omega | (simp only [World.size_alloc, World.putObj_size, ne_eq]; omega)) | ((first | refine hAl ?_ ?_ | refine hPu ?_ ?_); focus first | omega | (simp only [World.size_alloc, World.putObj_size, ne_eq]; omega))); exact rfl)
      | (apply wr_cat; (iterate 3 exact rfl); (first | omega | (simp only [List.length_append]; omega)))
      | (apply wr_streqc; (iterate 3 exact rfl); (first | exact decide_eq_true (by with_reducible assumption) | exact decide_eq_false (by with_reducible assumption) | exact decide_eq_true rfl | exact rfl))
      | (apply wr_strnec; (iterate 3 exact rfl); (first | exact decide_eq_true (by with_reducible assumption) | exact decide_eq_false (by with_reducible assumption) | exact decide_eq_true rfl | exact rfl); with_reducible (conv => enter [6, 3]; whnf))
      | (apply wr_bits; exact rfl; (focus (simp; done)); (iterate 2 exact rfl); assumption)
      | (apply wr_eqnil_t; iterate 2 exact rfl)
      | (apply wr_eqnil_f; iterate 2 exact rfl)
      | (apply wr_nenil_f; iterate 2 exact rfl)
      | (apply wr_nenil_t; iterate 2 exact rfl)
      | (apply wc_true; exact rfl)
      | (apply wc_false; exact rfl)
      | (apply wc_exit; try simp only [thenE, inBlockE, bodyQ, ↓reduceIte, Nat.reduceEqDiff])
      | ((first | apply wc_ret | apply wr_nil); try simp only [thenE, inBlockE, bodyQ])
      | (apply wr_skip; exact rfl)
    refine wr_boolNe (c := false) rfl rfl rfl rfl ?_
    repeat first
      | ((first | apply wr_move | apply wr_assign); exact rfl; with_reducible (conv => enter [6, 3]; whnf))
      | (first | apply wr_end | apply wc_seq | apply wc_region | apply wc_skip | apply wc_block)
      | ((first | apply wr_fieldAddr | apply wr_not | apply wr_len_str | apply wr_len_slice | apply wr_box); iterate 2 exact rfl)
      | (apply wr_load; (iterate 3 exact rfl); (focus repeat first | with_reducible assumption | exact heap_alloc_same _ _ | exact World.putObj_heap_same (by first | omega | (simp only [World.size_alloc, World.putObj_size, ne_eq]; omega)) | ((first | refine hAl ?_ ?_ | refine hPu ?_ ?_); focus first | omega | (simp only [World.size_alloc, World.putObj_size, ne_eq]; omega))); exact rfl; conv => enter [6, 3]; whnf)
      | (apply wr_cmp; (iterate 3 exact rfl); (first | exact cmpT (by dsimp only [cmpP]; first | done | omega) | exact cmpF (by dsimp only [cmpN]; first | done | omega) | exact cmp_lt _ _ | exact cmp_le _ _ | exact cmp_gt _ _ | exact cmp_ge _ _ | exact cmp_eq _ _ | exact cmp_ne _ _))
      | (apply wr_pick (t := true); (iterate 2 exact rfl); with_reducible (conv => enter [6, 3]; whnf))
      | (apply wr_pick (t := false); (iterate 2 exact rfl); with_reducible (conv => enter [6, 3]; whnf))
      | ((first | apply wr_add | apply wr_sub | apply wr_mul); (iterate 3 exact rfl); (first | exact w_fit (by dsimp only [kIn]; first | done | omega) | with_reducible assumption | rfl))
      | (apply wr_conv; (iterate 2 exact rfl); (first | exact w_fit (by dsimp only [kIn]; first | done | omega) | with_reducible assumption | rfl))
      | (apply wr_alloc; exact rfl)
      | (apply wr_extract; (iterate 3 exact rfl); with_reducible (conv => enter [6, 3]; whnf))
      | (apply wr_store; (iterate 3 exact rfl); (first | exact rfl | with_reducible assumption); (focus repeat first | with_reducible assumption | exact heap_alloc_same _ _ | exact World.putObj_heap_same (by first | omega | (simp only [World.size_alloc, World.putObj_size, ne_eq]; omega)) | ((first | refine hAl ?_ ?_ | refine hPu ?_ ?_); focus first | omega | (simp only [World.size_alloc, World.putObj_size, ne_eq]; omega))); exact rfl)
      | (apply wr_cat; (iterate 3 exact rfl); (first | omega | (simp only [List.length_append]; omega)))
      | (apply wr_streqc; (iterate 3 exact rfl); (first | exact decide_eq_true (by with_reducible assumption) | exact decide_eq_false (by with_reducible assumption) | exact decide_eq_true rfl | exact rfl))
      | (apply wr_strnec; (iterate 3 exact rfl); (first | exact decide_eq_true (by with_reducible assumption) | exact decide_eq_false (by with_reducible assumption) | exact decide_eq_true rfl | exact rfl); with_reducible (conv => enter [6, 3]; whnf))
      | (apply wr_bits; exact rfl; (focus (simp; done)); (iterate 2 exact rfl); assumption)
      | (apply wr_eqnil_t; iterate 2 exact rfl)
      | (apply wr_eqnil_f; iterate 2 exact rfl)
      | (apply wr_nenil_f; iterate 2 exact rfl)
      | (apply wr_nenil_t; iterate 2 exact rfl)
      | (apply wc_true; exact rfl)
      | (apply wc_false; exact rfl)
      | (apply wc_exit; try simp only [thenE, inBlockE, bodyQ, ↓reduceIte, Nat.reduceEqDiff])
      | ((first | apply wc_ret | apply wr_nil); try simp only [thenE, inBlockE, bodyQ])
      | (apply wr_skip; exact rfl)
    exact leave1 (v := .bool true) rfl rfl ⟨rfl, hk⟩
  | some l =>
    rw [hps] at hsl6 hsn
    rw [parse_append hps more, hpm] at hsm6 ⊢
    simp only [Option.getD_some, Option.map_some] at hsl6 hsn hsm6
    obtain ⟨al, cl, rfl, hcl, hal⟩ := hsl6.shape
    obtain ⟨am, cm, rfl, hcm, ham⟩ := hsm6.shape
    obtain ⟨an, cn, rfl, hcn, han⟩ := hsn.shape
    have hlm : (l ++ [(⟨3, 0, a, []⟩ : WF), ⟨4, 0, b, []⟩]).length = l.length + 2 := by simp
    have hln : ([(⟨3, 0, a, []⟩ : WF), ⟨4, 0, b, []⟩] ++ l).length = l.length + 2 := by simp
    have hll : l.length ≤ 1048576 := Nat.le_trans (parseF_len s.length s l (Nat.le_refl _) hps) hs
    rw [hlm] at ham ⊢
    rw [hln] at han ⊢
    obtain ⟨bm, om, rfl, curm, em, frm, hbm, hrm⟩ := ham (by omega)
    obtain ⟨bn, on, rfl, curn, en, frn, hbn, hrn⟩ := han (by omega)
    repeat first
      | ((first | apply wr_move | apply wr_assign); exact rfl; with_reducible (conv => enter [6, 3]; whnf))
      | (first | apply wr_end | apply wc_seq | apply wc_region | apply wc_skip | apply wc_block)
      | ((first | apply wr_fieldAddr | apply wr_not | apply wr_len_str | apply wr_len_slice | apply wr_box); iterate 2 exact rfl)
      | (apply wr_load; (iterate 3 exact rfl); (focus repeat first | with_reducible assumption | exact heap_alloc_same _ _ | exact World.putObj_heap_same (by first | omega | (simp only [World.size_alloc, World.putObj_size, ne_eq]; omega)) | ((first | refine hAl ?_ ?_ | refine hPu ?_ ?_); focus first | omega | (simp only [World.size_alloc, World.putObj_size, ne_eq]; omega))); exact rfl; conv => enter [6, 3]; whnf)
      | (apply wr_cmp; (iterate 3 exact rfl); (first | exact cmpT (by dsimp only [cmpP]; first | done | omega) | exact cmpF (by dsimp only [cmpN]; first | done | omega) | exact cmp_lt _ _ | exact cmp_le _ _ | exact cmp_gt _ _ | exact cmp_ge _ _ | exact cmp_eq _ _ | exact cmp_ne _ _))
      | (apply wr_pick (t := true); (iterate 2 exact rfl); with_reducible (conv => enter [6, 3]; whnf))
      | (apply wr_pick (t := false); (iterate 2 exact rfl); with_reducible (conv => enter [6, 3]; whnf))
      | ((first | apply wr_add | apply wr_sub | apply wr_mul); (iterate 3 exact rfl); (first | exact w_fit (by dsimp only [kIn]; first | done | omega) | with_reducible assumption | rfl))
      | (apply wr_conv; (iterate 2 exact rfl); (first | exact w_fit (by dsimp only [kIn]; first | done | omega) | with_reducible assumption | rfl))
      | (apply wr_alloc; exact rfl)
      | (apply wr_extract; (iterate 3 exact rfl); with_reducible (conv => enter [6, 3]; whnf))
      | (apply wr_store; (iterate 3 exact rfl); (first | exact rfl | with_reducible assumption); (focus repeat first | with_reducible assumption | exact heap_alloc_same _ _ | exact World.putObj_heap_same (by first | omega | (simp only [World.size_alloc, World.putObj_size, ne_eq]; omega)) | ((first | refine hAl ?_ ?_ | refine hPu ?_ ?_); focus first | omega | (simp only [World.size_alloc, World.putObj_size, ne_eq]; omega))); exact rfl)
      | (apply wr_cat; (iterate 3 exact rfl); (first | omega | (simp only [List.length_append]; omega)))
      | (apply wr_streqc; (iterate 3 exact rfl); (first | exact decide_eq_true (by with_reducible assumption) | exact decide_eq_false (by with_reducible assumption) | exact decide_eq_true rfl | exact rfl))
      | (apply wr_strnec; (iterate 3 exact rfl); (first | exact decide_eq_true (by with_reducible assumption) | exact decide_eq_false (by with_reducible assumption) | exact decide_eq_true rfl | exact rfl); with_reducible (conv => enter [6, 3]; whnf))
      | (apply wr_bits; exact rfl; (focus (simp; done)); (iterate 2 exact rfl); assumption)
      | (apply wr_eqnil_t; iterate 2 exact rfl)
      | (apply wr_eqnil_f; iterate 2 exact rfl)
      | (apply wr_nenil_f; iterate 2 exact rfl)
      | (apply wr_nenil_t; iterate 2 exact rfl)
      | (apply wc_true; exact rfl)
      | (apply wc_false; exact rfl)
      | (apply wc_exit; try simp only [thenE, inBlockE, bodyQ, ↓reduceIte, Nat.reduceEqDiff])
      | ((first | apply wc_ret | apply wr_nil); try simp only [thenE, inBlockE, bodyQ])
      | (apply wr_skip; exact rfl)
    refine wr_boolNe (c := false) rfl rfl rfl rfl ?_
    repeat first
      | ((first | apply wr_move | apply wr_assign); exact rfl; with_reducible (conv => enter [6, 3]; whnf))
      | (first | apply wr_end | apply wc_seq | apply wc_region | apply wc_skip | apply wc_block)
      | ((first | apply wr_fieldAddr | apply wr_not | apply wr_len_str | apply wr_len_slice | apply wr_box); iterate 2 exact rfl)
      | (apply wr_load; (iterate 3 exact rfl); (focus repeat first | with_reducible assumption | exact heap_alloc_same _ _ | exact World.putObj_heap_same (by first | omega | (simp only [World.size_alloc, World.putObj_size, ne_eq]; omega)) | ((first | refine hAl ?_ ?_ | refine hPu ?_ ?_); focus first | omega | (simp only [World.size_alloc, World.putObj_size, ne_eq]; omega))); exact rfl; conv => enter [6, 3]; whnf)
      | (apply wr_cmp; (iterate 3 exact rfl); (first | exact cmpT (by dsimp only [cmpP]; first | done | omega) | exact cmpF (by dsimp only [cmpN]; first | done | omega) | exact cmp_lt _ _ | exact cmp_le _ _ | exact cmp_gt _ _ | exact cmp_ge _ _ | exact cmp_eq _ _ | exact cmp_ne _ _))
      | (apply wr_pick (t := true); (iterate 2 exact rfl); with_reducible (conv => enter [6, 3]; whnf))
      | (apply wr_pick (t := false); (iterate 2 exact rfl); with_reducible (conv => enter [6, 3]; whnf))
      | ((first | apply wr_add | apply wr_sub | apply wr_mul); (iterate 3 exact rfl); (first | exact w_fit (by dsimp only [kIn]; first | done | omega) | with_reducible assumption | rfl))
      | (apply wr_conv; (iterate 2 exact rfl); (first | exact w_fit (by dsimp only [kIn]; first | done | omega) | with_reducible assumption | rfl))
      | (apply wr_alloc; exact rfl)
      | (apply wr_extract; (iterate 3 exact rfl); with_reducible (conv => enter [6, 3]; whnf))
      | (apply wr_store; (iterate 3 exact rfl); (first | exact rfl | with_reducible assumption); (focus repeat first | with_reducible assumption | exact heap_alloc_same _ _ | exact World.putObj_heap_same (by first | omega | (simp only [World.size_alloc, World.putObj_size, ne_eq]; omega)) | ((first | refine hAl ?_ ?_ | refine hPu ?_ ?_); focus first | omega | (simp only [World.size_alloc, World.putObj_size, ne_eq]; omega))); exact rfl)
      | (apply wr_cat; (iterate 3 exact rfl); (first | omega | (simp only [List.length_append]; omega)))
      | (apply wr_streqc; (iterate 3 exact rfl); (first | exact decide_eq_true (by with_reducible assumption) | exact decide_eq_false (by with_reducible assumption) | exact decide_eq_true rfl | exact rfl))
      | (apply wr_strnec; (iterate 3 exact rfl); (first | exact decide_eq_true (by with_reducible assumption) | exact decide_eq_false (by with_reducible assumption) | exact decide_eq_true rfl | exact rfl); with_reducible (conv => enter [6, 3]; whnf))
      | (apply wr_bits; exact rfl; (focus (simp; done)); (iterate 2 exact rfl); assumption)
      | (apply wr_eqnil_t; iterate 2 exact rfl)
      | (apply wr_eqnil_f; iterate 2 exact rfl)
      | (apply wr_nenil_f; iterate 2 exact rfl)
      | (apply wr_nenil_t; iterate 2 exact rfl)
      | (apply wc_true; exact rfl)
      | (apply wc_false; exact rfl)
      | (apply wc_exit; try simp only [thenE, inBlockE, bodyQ, ↓reduceIte, Nat.reduceEqDiff])
      | ((first | apply wc_ret | apply wr_nil); try simp only [thenE, inBlockE, bodyQ])
      | (apply wr_skip; exact rfl)
    refine wc_loopL (α := Nat) (fun i => [(1, .int .u64 (a : Int)), (2, .int .u64 (b : Int)), (7, .bool true), (8, .slice al l.length cl), (9, .bool true), (11, .slice (some ⟨bm, om, none⟩) (l.length + 2) cm), (12, .bool true), (13, .slice (some ⟨bn, on, none⟩) (l.length + 2) cn), (15, .int .i64 (i : Int))])
      (fun i ds w' => ds = [] ∧ i ≤ l.length ∧ w'.heap = w6.heap ∧ Keeps NoB w w') (fun i => l.length - i) 0 ⟨rfl, Nat.zero_le _, rfl, hk⟩ ⟨rfl, rfl, rfl, rfl, rfl, rfl, rfl, rfl, rfl, trivial⟩ ?_
    rintro i ds f0 w7 ⟨rfl, hi, hw7, hk7⟩
    have hbm7 : w7.heap[bm]? = some (.cells curm em frm) := by rw [hw7]; exact hbm
    have hbn7 : w7.heap[bn]? = some (.cells curn en frn) := by rw [hw7]; exact hbn
    by_cases hlt : i < l.length
    · obtain ⟨bl, ol, rfl, curl, el, frl, hbl, hrl⟩ := hal (by omega)
      have hbl7 : w7.heap[bl]? = some (.cells curl el frl) := by rw [hw7]; exact hbl
      obtain ⟨x, hx⟩ : ∃ x, l[i]? = some x := ⟨l[i], by simp [hlt]⟩
      have hxm : (l ++ [(⟨3, 0, a, []⟩ : WF), ⟨4, 0, b, []⟩])[i]? = some x := by rw [List.getElem?_append_left hlt]; exact hx
      have hxn : ([(⟨3, 0, a, []⟩ : WF), ⟨4, 0, b, []⟩] ++ l)[i + 2]? = some x := by rw [List.getElem?_append_right (by simp)]; simpa using hx
      obtain ⟨xn, xk, xv, xs⟩ := x
      have hi2 : (i : Int) + 2 = ((i + 2 : Nat) : Int) := by omega
      repeat first
        | ((first | apply wr_move | apply wr_assign); exact rfl; with_reducible (conv => enter [6, 3]; whnf))
        | (first | apply wr_end | apply wc_seq | apply wc_region | apply wc_skip | apply wc_block)
        | ((first | apply wr_fieldAddr | apply wr_not | apply wr_len_str | apply wr_len_slice | apply wr_box); iterate 2 exact rfl)
        | (apply wr_load; (iterate 3 exact rfl); (focus repeat first | with_reducible assumption | exact heap_alloc_same _ _ | exact World.putObj_heap_same (by first | omega | (simp only [World.size_alloc, World.putObj_size, ne_eq]; omega)) | ((first | refine hAl ?_ ?_ | refine hPu ?_ ?_); focus first | omega | (simp only [World.size_alloc, World.putObj_size, ne_eq]; omega))); exact rfl; conv => enter [6, 3]; whnf)
        | (apply wr_cmp; (iterate 3 exact rfl); (first | exact cmpT (by dsimp only [cmpP]; first | done | omega) | exact cmpF (by dsimp only [cmpN]; first | done | omega) | exact cmp_lt _ _ | exact cmp_le _ _ | exact cmp_gt _ _ | exact cmp_ge _ _ | exact cmp_eq _ _ | exact cmp_ne _ _))
        | (apply wr_pick (t := true); (iterate 2 exact rfl); with_reducible (conv => enter [6, 3]; whnf))
        | (apply wr_pick (t := false); (iterate 2 exact rfl); with_reducible (conv => enter [6, 3]; whnf))
        | ((first | apply wr_add | apply wr_sub | apply wr_mul); (iterate 3 exact rfl); (first | exact w_fit (by dsimp only [kIn]; first | done | omega) | with_reducible assumption | rfl))
        | (apply wr_conv; (iterate 2 exact rfl); (first | exact w_fit (by dsimp only [kIn]; first | done | omega) | with_reducible assumption | rfl))
        | (apply wr_alloc; exact rfl)
        | (apply wr_extract; (iterate 3 exact rfl); with_reducible (conv => enter [6, 3]; whnf))
        | (apply wr_store; (iterate 3 exact rfl); (first | exact rfl | with_reducible assumption); (focus repeat first | with_reducible assumption | exact heap_alloc_same _ _ | exact World.putObj_heap_same (by first | omega | (simp only [World.size_alloc, World.putObj_size, ne_eq]; omega)) | ((first | refine hAl ?_ ?_ | refine hPu ?_ ?_); focus first | omega | (simp only [World.size_alloc, World.putObj_size, ne_eq]; omega))); exact rfl)
        | (apply wr_cat; (iterate 3 exact rfl); (first | omega | (simp only [List.length_append]; omega)))
        | (apply wr_streqc; (iterate 3 exact rfl); (first | exact decide_eq_true (by with_reducible assumption) | exact decide_eq_false (by with_reducible assumption) | exact decide_eq_true rfl | exact rfl))
        | (apply wr_strnec; (iterate 3 exact rfl); (first | exact decide_eq_true (by with_reducible assumption) | exact decide_eq_false (by with_reducible assumption) | exact decide_eq_true rfl | exact rfl); with_reducible (conv => enter [6, 3]; whnf))
        | (apply wr_bits; exact rfl; (focus (simp; done)); (iterate 2 exact rfl); assumption)
        | (apply wr_eqnil_t; iterate 2 exact rfl)
        | (apply wr_eqnil_f; iterate 2 exact rfl)
        | (apply wr_nenil_f; iterate 2 exact rfl)
        | (apply wr_nenil_t; iterate 2 exact rfl)
        | (apply wc_true; exact rfl)
        | (apply wc_false; exact rfl)
        | (apply wc_exit; try simp only [thenE, inBlockE, bodyQ, ↓reduceIte, Nat.reduceEqDiff])
        | ((first | apply wc_ret | apply wr_nil); try simp only [thenE, inBlockE, bodyQ])
        | (apply wr_skip; exact rfl)
      refine wc_drawS (l := _) (S := fun w' => w' = w7.drew) (by kernel_rfl) (by kernel_rfl) rfl ?_
      apply ch_step
      focus
        intro w' hS
        subst hS
        apply wr_move; exact rfl
        apply wr_nil
        exact ⟨rfl, rfl⟩
      apply ch_step
      focus
        intro w' hS
        subst hS
        apply wr_len_slice; exact rfl; exact rfl
        apply wr_nil
        exact ⟨rfl, rfl⟩
      apply ch_step
      focus
        intro w' hS
        subst hS
        apply wr_move; exact rfl
        apply wr_nil
        exact ⟨rfl, rfl⟩
      apply ch_step
      focus
        intro w' hS
        subst hS
        apply wr_len_slice; exact rfl; exact rfl
        apply wr_nil
        exact ⟨rfl, rfl⟩
      apply ch_step
      focus
        intro w' hS
        subst hS
        apply wr_add (c := (l.length : Int) + 2); exact rfl; exact rfl; exact rfl; exact w_i64 (by omega)
        apply wr_nil
        exact ⟨rfl, rfl⟩
      apply ch_step
      focus
        intro w' hS
        subst hS
        apply wr_cmp (c := false); exact rfl; exact rfl; exact rfl; exact cmp_ne_f (by omega)
        apply wr_nil
        exact ⟨rfl, rfl⟩
      apply ch_step
      focus
        intro w' hS
        subst hS
        apply wr_move; exact rfl
        apply wr_nil
        exact ⟨rfl, rfl⟩
      apply ch_step
      focus
        intro w' hS
        subst hS
        apply wr_move; exact rfl
        apply wr_nil
        exact ⟨rfl, rfl⟩
      apply ch_step
      focus
        intro w' hS
        subst hS
        apply wr_move; exact rfl
        apply wr_nil
        exact ⟨rfl, rfl⟩
      apply ch_step
      focus
        intro w' hS
        subst hS
        refine wr_indexAddr rfl rfl rfl (by omega : i < l.length + 2) ?_
        apply wr_nil
        exact ⟨rfl, rfl⟩
      apply ch_step
      focus
        intro w' hS
        subst hS
        refine wr_loadElem (G := WF.cs) (n := l.length + 2) rfl rfl WF.cs_len rfl hbm7 hrm (by omega) hxm rfl ?_
        apply wr_nil
        exact ⟨rfl, rfl⟩
      apply ch_step
      focus
        intro w' hS
        subst hS
        apply wr_move; exact rfl
        apply wr_nil
        exact ⟨rfl, rfl⟩
      apply ch_step
      focus
        intro w' hS
        subst hS
        apply wr_move; exact rfl
        apply wr_nil
        exact ⟨rfl, rfl⟩
      apply ch_step
      focus
        intro w' hS
        subst hS
        refine wr_indexAddr rfl rfl rfl hlt ?_
        apply wr_nil
        exact ⟨rfl, rfl⟩
      apply ch_step
      focus
        intro w' hS
        subst hS
        refine wr_loadElem (G := WF.cs) (n := l.length) rfl rfl WF.cs_len rfl hbl7 hrl hlt hx rfl ?_
        apply wr_nil
        exact ⟨rfl, rfl⟩
      apply ch_step
      focus
        intro w' hS
        subst hS
        refine wr_structNe (c := false) rfl rfl rfl wf_stood wf_guard (wf_eqOk ⟨xn, xk, xv, xs⟩ ⟨xn, xk, xv, xs⟩ _) (by simp) ?_
        apply wr_nil
        exact ⟨rfl, rfl⟩
      apply ch_step
      focus
        intro w' hS
        subst hS
        apply wr_pick (t := false); exact rfl; exact rfl
        apply wr_nil
        exact ⟨rfl, rfl⟩
      apply ch_step
      focus
        intro w' hS
        subst hS
        apply wr_move; exact rfl
        apply wr_nil
        exact ⟨rfl, rfl⟩
      apply ch_step
      focus
        intro w' hS
        subst hS
        apply wr_move; exact rfl
        apply wr_nil
        exact ⟨rfl, rfl⟩
      apply ch_step
      focus
        intro w' hS
        subst hS
        apply wr_move; exact rfl
        apply wr_nil
        exact ⟨rfl, rfl⟩
      apply ch_step
      focus
        intro w' hS
        subst hS
        apply wr_add (c := ((i + 2 : Nat) : Int)); exact rfl; exact rfl; exact rfl; (rw [hi2]; exact w_i64 (by omega))
        apply wr_nil
        exact ⟨rfl, rfl⟩
      apply ch_step
      focus
        intro w' hS
        subst hS
        refine wr_indexAddr (i := i + 2) rfl rfl rfl (by omega : i + 2 < l.length + 2) ?_
        apply wr_nil
        exact ⟨rfl, rfl⟩
      apply ch_step
      focus
        intro w' hS
        subst hS
        refine wr_loadElem (G := WF.cs) (n := l.length + 2) rfl rfl WF.cs_len rfl hbn7 hrn (by omega) hxn rfl ?_
        apply wr_nil
        exact ⟨rfl, rfl⟩
      apply ch_step
      focus
        intro w' hS
        subst hS
        apply wr_move; exact rfl
        apply wr_nil
        exact ⟨rfl, rfl⟩
      apply ch_step
      focus
        intro w' hS
        subst hS
        apply wr_move; exact rfl
        apply wr_nil
        exact ⟨rfl, rfl⟩
      apply ch_step
      focus
        intro w' hS
        subst hS
        refine wr_indexAddr rfl rfl rfl hlt ?_
        apply wr_nil
        exact ⟨rfl, rfl⟩
      apply ch_step
      focus
        intro w' hS
        subst hS
        refine wr_loadElem (G := WF.cs) (n := l.length) rfl rfl WF.cs_len rfl hbl7 hrl hlt hx rfl ?_
        apply wr_nil
        exact ⟨rfl, rfl⟩
      apply ch_step
      focus
        intro w' hS
        subst hS
        refine wr_structNe (c := false) rfl rfl rfl wf_stood wf_guard (wf_eqOk ⟨xn, xk, xv, xs⟩ ⟨xn, xk, xv, xs⟩ _) (by simp) ?_
        apply wr_nil
        exact ⟨rfl, rfl⟩
      apply ch_step
      focus
        intro w' hS
        subst hS
        apply wr_pick (t := false); exact rfl; exact rfl
        apply wr_nil
        exact ⟨rfl, rfl⟩
      refine ch_nil ?_
      intro w' hS
      subst hS
      repeat first
        | ((first | apply wr_move | apply wr_assign); exact rfl; with_reducible (conv => enter [6, 3]; whnf))
        | (first | apply wr_end | apply wc_seq | apply wc_region | apply wc_skip | apply wc_block)
        | ((first | apply wr_fieldAddr | apply wr_not | apply wr_len_str | apply wr_len_slice | apply wr_box); iterate 2 exact rfl)
        | (apply wr_load; (iterate 3 exact rfl); (focus repeat first | with_reducible assumption | exact heap_alloc_same _ _ | exact World.putObj_heap_same (by first | omega | (simp only [World.size_alloc, World.putObj_size, ne_eq]; omega)) | ((first | refine hAl ?_ ?_ | refine hPu ?_ ?_); focus first | omega | (simp only [World.size_alloc, World.putObj_size, ne_eq]; omega))); exact rfl; conv => enter [6, 3]; whnf)
        | (apply wr_cmp; (iterate 3 exact rfl); (first | exact cmpT (by dsimp only [cmpP]; first | done | omega) | exact cmpF (by dsimp only [cmpN]; first | done | omega) | exact cmp_lt _ _ | exact cmp_le _ _ | exact cmp_gt _ _ | exact cmp_ge _ _ | exact cmp_eq _ _ | exact cmp_ne _ _))
        | (apply wr_pick (t := true); (iterate 2 exact rfl); with_reducible (conv => enter [6, 3]; whnf))
        | (apply wr_pick (t := false); (iterate 2 exact rfl); with_reducible (conv => enter [6, 3]; whnf))
        | ((first | apply wr_add | apply wr_sub | apply wr_mul); (iterate 3 exact rfl); (first | exact w_fit (by dsimp only [kIn]; first | done | omega) | with_reducible assumption | rfl))
        | (apply wr_conv; (iterate 2 exact rfl); (first | exact w_fit (by dsimp only [kIn]; first | done | omega) | with_reducible assumption | rfl))
        | (apply wr_alloc; exact rfl)
        | (apply wr_extract; (iterate 3 exact rfl); with_reducible (conv => enter [6, 3]; whnf))
        | (apply wr_store; (iterate 3 exact rfl); (first | exact rfl | with_reducible assumption); (focus repeat first | with_reducible assumption | exact heap_alloc_same _ _ | exact World.putObj_heap_same (by first | omega | (simp only [World.size_alloc, World.putObj_size, ne_eq]; omega)) | ((first | refine hAl ?_ ?_ | refine hPu ?_ ?_); focus first | omega | (simp only [World.size_alloc, World.putObj_size, ne_eq]; omega))); exact rfl)
        | (apply wr_cat; (iterate 3 exact rfl); (first | omega | (simp only [List.length_append]; omega)))
        | (apply wr_streqc; (iterate 3 exact rfl); (first | exact decide_eq_true (by with_reducible assumption) | exact decide_eq_false (by with_reducible assumption) | exact decide_eq_true rfl | exact rfl))
        | (apply wr_strnec; (iterate 3 exact rfl); (first | exact decide_eq_true (by with_reducible assumption) | exact decide_eq_false (by with_reducible assumption) | exact decide_eq_true rfl | exact rfl); with_reducible (conv => enter [6, 3]; whnf))
        | (apply wr_bits; exact rfl; (focus (simp; done)); (iterate 2 exact rfl); assumption)
        | (apply wr_eqnil_t; iterate 2 exact rfl)
        | (apply wr_eqnil_f; iterate 2 exact rfl)
        | (apply wr_nenil_f; iterate 2 exact rfl)
        | (apply wr_nenil_t; iterate 2 exact rfl)
        | (apply wc_true; exact rfl)
        | (apply wc_false; exact rfl)
        | (apply wc_exit; try simp only [thenE, inBlockE, bodyQ, ↓reduceIte, Nat.reduceEqDiff])
        | ((first | apply wc_ret | apply wr_nil); try simp only [thenE, inBlockE, bodyQ])
        | (apply wr_skip; exact rfl)
      exact ⟨i + 1, by omega, ⟨by trivial, hlt, hw7, hk7.drew⟩, rfl, rfl, rfl, rfl, rfl, rfl, rfl, rfl, by simp, trivial⟩
    · have he : i = l.length := by omega
      subst he
      repeat first
        | ((first | apply wr_move | apply wr_assign); exact rfl; with_reducible (conv => enter [6, 3]; whnf))
        | (first | apply wr_end | apply wc_seq | apply wc_region | apply wc_skip | apply wc_block)
        | ((first | apply wr_fieldAddr | apply wr_not | apply wr_len_str | apply wr_len_slice | apply wr_box); iterate 2 exact rfl)
        | (apply wr_load; (iterate 3 exact rfl); (focus repeat first | with_reducible assumption | exact heap_alloc_same _ _ | exact World.putObj_heap_same (by first | omega | (simp only [World.size_alloc, World.putObj_size, ne_eq]; omega)) | ((first | refine hAl ?_ ?_ | refine hPu ?_ ?_); focus first | omega | (simp only [World.size_alloc, World.putObj_size, ne_eq]; omega))); exact rfl; conv => enter [6, 3]; whnf)
        | (apply wr_cmp; (iterate 3 exact rfl); (first | exact cmpT (by dsimp only [cmpP]; first | done | omega) | exact cmpF (by dsimp only [cmpN]; first | done | omega) | exact cmp_lt _ _ | exact cmp_le _ _ | exact cmp_gt _ _ | exact cmp_ge _ _ | exact cmp_eq _ _ | exact cmp_ne _ _))
        | (apply wr_pick (t := true); (iterate 2 exact rfl); with_reducible (conv => enter [6, 3]; whnf))
        | (apply wr_pick (t := false); (iterate 2 exact rfl); with_reducible (conv => enter [6, 3]; whnf))
        | ((first | apply wr_add | apply wr_sub | apply wr_mul); (iterate 3 exact rfl); (first | exact w_fit (by dsimp only [kIn]; first | done | omega) | with_reducible assumption | rfl))
        | (apply wr_conv; (iterate 2 exact rfl); (first | exact w_fit (by dsimp only [kIn]; first | done | omega) | with_reducible assumption | rfl))
        | (apply wr_alloc; exact rfl)
        | (apply wr_extract; (iterate 3 exact rfl); with_reducible (conv => enter [6, 3]; whnf))
        | (apply wr_store; (iterate 3 exact rfl); (first | exact rfl | with_reducible assumption); (focus repeat first | with_reducible assumption | exact heap_alloc_same _ _ | exact World.putObj_heap_same (by first | omega | (simp only [World.size_alloc, World.putObj_size, ne_eq]; omega)) | ((first | refine hAl ?_ ?_ | refine hPu ?_ ?_); focus first | omega | (simp only [World.size_alloc, World.putObj_size, ne_eq]; omega))); exact rfl)
        | (apply wr_cat; (iterate 3 exact rfl); (first | omega | (simp only [List.length_append]; omega)))
        | (apply wr_streqc; (iterate 3 exact rfl); (first | exact decide_eq_true (by with_reducible assumption) | exact decide_eq_false (by with_reducible assumption) | exact decide_eq_true rfl | exact rfl))
        | (apply wr_strnec; (iterate 3 exact rfl); (first | exact decide_eq_true (by with_reducible assumption) | exact decide_eq_false (by with_reducible assumption) | exact decide_eq_true rfl | exact rfl); with_reducible (conv => enter [6, 3]; whnf))
        | (apply wr_bits; exact rfl; (focus (simp; done)); (iterate 2 exact rfl); assumption)
        | (apply wr_eqnil_t; iterate 2 exact rfl)
        | (apply wr_eqnil_f; iterate 2 exact rfl)
        | (apply wr_nenil_f; iterate 2 exact rfl)
        | (apply wr_nenil_t; iterate 2 exact rfl)
        | (apply wc_true; exact rfl)
        | (apply wc_false; exact rfl)
        | (apply wc_exit; try simp only [thenE, inBlockE, bodyQ, ↓reduceIte, Nat.reduceEqDiff])
        | ((first | apply wc_ret | apply wr_nil); try simp only [thenE, inBlockE, bodyQ])
        | (apply wr_skip; exact rfl)
      refine wr_indexAddr (i := l.length) rfl rfl rfl (by omega) ?_
      refine wr_fieldAddr rfl rfl ?_
      refine wr_load (v := .int .u64 (a : Int)) rfl rfl rfl hbm7 (cell_elem (g := WF.cs) (k := 4) (n := l.length + 2) (i := l.length) (j := 2) (a := ⟨3, 0, a, []⟩) WF.cs_len hrm (by omega) (by simp) rfl) ?_
      repeat first
        | ((first | apply wr_move | apply wr_assign); exact rfl; with_reducible (conv => enter [6, 3]; whnf))
        | (first | apply wr_end | apply wc_seq | apply wc_region | apply wc_skip | apply wc_block)
        | ((first | apply wr_fieldAddr | apply wr_not | apply wr_len_str | apply wr_len_slice | apply wr_box); iterate 2 exact rfl)
        | (apply wr_load; (iterate 3 exact rfl); (focus repeat first | with_reducible assumption | exact heap_alloc_same _ _ | exact World.putObj_heap_same (by first | omega | (simp only [World.size_alloc, World.putObj_size, ne_eq]; omega)) | ((first | refine hAl ?_ ?_ | refine hPu ?_ ?_); focus first | omega | (simp only [World.size_alloc, World.putObj_size, ne_eq]; omega))); exact rfl; conv => enter [6, 3]; whnf)
        | (apply wr_cmp; (iterate 3 exact rfl); (first | exact cmpT (by dsimp only [cmpP]; first | done | omega) | exact cmpF (by dsimp only [cmpN]; first | done | omega) | exact cmp_lt _ _ | exact cmp_le _ _ | exact cmp_gt _ _ | exact cmp_ge _ _ | exact cmp_eq _ _ | exact cmp_ne _ _))
        | (apply wr_pick (t := true); (iterate 2 exact rfl); with_reducible (conv => enter [6, 3]; whnf))
        | (apply wr_pick (t := false); (iterate 2 exact rfl); with_reducible (conv => enter [6, 3]; whnf))
        | ((first | apply wr_add | apply wr_sub | apply wr_mul); (iterate 3 exact rfl); (first | exact w_fit (by dsimp only [kIn]; first | done | omega) | with_reducible assumption | rfl))
        | (apply wr_conv; (iterate 2 exact rfl); (first | exact w_fit (by dsimp only [kIn]; first | done | omega) | with_reducible assumption | rfl))
        | (apply wr_alloc; exact rfl)
        | (apply wr_extract; (iterate 3 exact rfl); with_reducible (conv => enter [6, 3]; whnf))
        | (apply wr_store; (iterate 3 exact rfl); (first | exact rfl | with_reducible assumption); (focus repeat first | with_reducible assumption | exact heap_alloc_same _ _ | exact World.putObj_heap_same (by first | omega | (simp only [World.size_alloc, World.putObj_size, ne_eq]; omega)) | ((first | refine hAl ?_ ?_ | refine hPu ?_ ?_); focus first | omega | (simp only [World.size_alloc, World.putObj_size, ne_eq]; omega))); exact rfl)
        | (apply wr_cat; (iterate 3 exact rfl); (first | omega | (simp only [List.length_append]; omega)))
        | (apply wr_streqc; (iterate 3 exact rfl); (first | exact decide_eq_true (by with_reducible assumption) | exact decide_eq_false (by with_reducible assumption) | exact decide_eq_true rfl | exact rfl))
        | (apply wr_strnec; (iterate 3 exact rfl); (first | exact decide_eq_true (by with_reducible assumption) | exact decide_eq_false (by with_reducible assumption) | exact decide_eq_true rfl | exact rfl); with_reducible (conv => enter [6, 3]; whnf))
        | (apply wr_bits; exact rfl; (focus (simp; done)); (iterate 2 exact rfl); assumption)
        | (apply wr_eqnil_t; iterate 2 exact rfl)
        | (apply wr_eqnil_f; iterate 2 exact rfl)
        | (apply wr_nenil_f; iterate 2 exact rfl)
        | (apply wr_nenil_t; iterate 2 exact rfl)
        | (apply wc_true; exact rfl)
        | (apply wc_false; exact rfl)
        | (apply wc_exit; try simp only [thenE, inBlockE, bodyQ, ↓reduceIte, Nat.reduceEqDiff])
        | ((first | apply wc_ret | apply wr_nil); try simp only [thenE, inBlockE, bodyQ])
        | (apply wr_skip; exact rfl)
      refine wr_indexAddr (i := 1) rfl rfl rfl (by omega) ?_
      refine wr_fieldAddr rfl rfl ?_
      refine wr_load (v := .int .u64 (b : Int)) rfl rfl rfl hbn7 (cell_elem (g := WF.cs) (k := 4) (n := l.length + 2) (i := 1) (j := 2) (a := ⟨4, 0, b, []⟩) WF.cs_len hrn (by omega) rfl rfl) ?_
      repeat first
        | ((first | apply wr_move | apply wr_assign); exact rfl; with_reducible (conv => enter [6, 3]; whnf))
        | (first | apply wr_end | apply wc_seq | apply wc_region | apply wc_skip | apply wc_block)
        | ((first | apply wr_fieldAddr | apply wr_not | apply wr_len_str | apply wr_len_slice | apply wr_box); iterate 2 exact rfl)
        | (apply wr_load; (iterate 3 exact rfl); (focus repeat first | with_reducible assumption | exact heap_alloc_same _ _ | exact World.putObj_heap_same (by first | omega | (simp only [World.size_alloc, World.putObj_size, ne_eq]; omega)) | ((first | refine hAl ?_ ?_ | refine hPu ?_ ?_); focus first | omega | (simp only [World.size_alloc, World.putObj_size, ne_eq]; omega))); exact rfl; conv => enter [6, 3]; whnf)
        | (apply wr_cmp; (iterate 3 exact rfl); (first | exact cmpT (by dsimp only [cmpP]; first | done | omega) | exact cmpF (by dsimp only [cmpN]; first | done | omega) | exact cmp_lt _ _ | exact cmp_le _ _ | exact cmp_gt _ _ | exact cmp_ge _ _ | exact cmp_eq _ _ | exact cmp_ne _ _))
        | (apply wr_pick (t := true); (iterate 2 exact rfl); with_reducible (conv => enter [6, 3]; whnf))
        | (apply wr_pick (t := false); (iterate 2 exact rfl); with_reducible (conv => enter [6, 3]; whnf))
        | ((first | apply wr_add | apply wr_sub | apply wr_mul); (iterate 3 exact rfl); (first | exact w_fit (by dsimp only [kIn]; first | done | omega) | with_reducible assumption | rfl))
        | (apply wr_conv; (iterate 2 exact rfl); (first | exact w_fit (by dsimp only [kIn]; first | done | omega) | with_reducible assumption | rfl))
        | (apply wr_alloc; exact rfl)
        | (apply wr_extract; (iterate 3 exact rfl); with_reducible (conv => enter [6, 3]; whnf))
        | (apply wr_store; (iterate 3 exact rfl); (first | exact rfl | with_reducible assumption); (focus repeat first | with_reducible assumption | exact heap_alloc_same _ _ | exact World.putObj_heap_same (by first | omega | (simp only [World.size_alloc, World.putObj_size, ne_eq]; omega)) | ((first | refine hAl ?_ ?_ | refine hPu ?_ ?_); focus first | omega | (simp only [World.size_alloc, World.putObj_size, ne_eq]; omega))); exact rfl)
        | (apply wr_cat; (iterate 3 exact rfl); (first | omega | (simp only [List.length_append]; omega)))
        | (apply wr_streqc; (iterate 3 exact rfl); (first | exact decide_eq_true (by with_reducible assumption) | exact decide_eq_false (by with_reducible assumption) | exact decide_eq_true rfl | exact rfl))
        | (apply wr_strnec; (iterate 3 exact rfl); (first | exact decide_eq_true (by with_reducible assumption) | exact decide_eq_false (by with_reducible assumption) | exact decide_eq_true rfl | exact rfl); with_reducible (conv => enter [6, 3]; whnf))
        | (apply wr_bits; exact rfl; (focus (simp; done)); (iterate 2 exact rfl); assumption)
        | (apply wr_eqnil_t; iterate 2 exact rfl)
        | (apply wr_eqnil_f; iterate 2 exact rfl)
        | (apply wr_nenil_f; iterate 2 exact rfl)
        | (apply wr_nenil_t; iterate 2 exact rfl)
        | (apply wc_true; exact rfl)
        | (apply wc_false; exact rfl)
        | (apply wc_exit; try simp only [thenE, inBlockE, bodyQ, ↓reduceIte, Nat.reduceEqDiff])
        | ((first | apply wc_ret | apply wr_nil); try simp only [thenE, inBlockE, bodyQ])
        | (apply wr_skip; exact rfl)
      exact leave1 (v := .bool true) rfl rfl ⟨rfl, hk7⟩
end Go.Proofs.YtpilcnkgpgkboaaDoor
