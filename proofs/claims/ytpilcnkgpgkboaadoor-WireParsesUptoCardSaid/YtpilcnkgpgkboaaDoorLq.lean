/- norialaw01.WireParses: it is true. -/
import Derived.Test.YtpilcnkgpgkboaaDoorWl
import Derived.Test.YtpilcnkgpgkboaaDoorWm
import Derived.Test.YtpilcnkgpgkboaaDoorLm
namespace Go.Proofs.YtpilcnkgpgkboaaDoor
open Go Go.V Go.RowKit
set_option linter.unusedVariables false
set_option linter.unusedSimpArgs false

theorem parse_get {s : List UInt8} {w w' : World} {v : Value} (h : parseR s w v w') : ∃ sl, v = .tuple #[sl, .bool (parseF s).isSome] ∧ SlR w' 4 sl ((parseF s).getD []).length (FL ((parseF s).getD [])) := by
  unfold parseR at h
  cases hp : parseF s with
  | some l =>
    rw [hp] at h
    obtain ⟨sl, rfl, ho⟩ := h
    exact ⟨sl, rfl, SlR.of_own ho⟩
  | none =>
    rw [hp] at h
    exact ⟨.slice none 0 0, h, rfl, none, 0, rfl, Nat.le_refl _, .inl ⟨rfl, fun _ => rfl⟩⟩
theorem rparse_get {s : List UInt8} {w w' : World} {v : Value} (h : rparseR s w v w') : ∃ sl, v = .tuple #[sl, .bool (parseF s).isSome] ∧ SlR w' 4 sl ((parseF s).getD []).length (FL ((parseF s).getD [])) := by
  unfold rparseR at h
  cases hp : parseF s with
  | some l =>
    rw [hp] at h
    obtain ⟨sl, rfl, ho⟩ := h
    exact ⟨sl, rfl, SlR.of_own ho⟩
  | none =>
    rw [hp] at h
    exact ⟨.slice none 0 0, h, rfl, none, 0, rfl, Nat.le_refl _, .inl ⟨rfl, fun _ => rfl⟩⟩
theorem putF_len {x : WF} (hn : x.n < 18446744073709551616) (hs : x.s.length < 18446744073709551616) (hk : -9223372036854775808 ≤ x.kind ∧ x.kind ≤ 9223372036854775807) : ((putF x).getD []).length ≤ x.s.length + 20 := by
  obtain ⟨num, kind, n, s⟩ := x
  simp only at hn hs hk
  by_cases hbad : num < 1 ∨ 536870912 ≤ num ∨ (kind ≠ 0 ∧ n ≠ 0)
  · have : putF ⟨num, kind, n, s⟩ = none := if_pos hbad
    rw [this]; simp
  · rw [put_cases hbad]
    have h2 := varint_len n hn
    have h3 := varint_len s.length hs
    have h1 := fun z : Int => varint_len z.toNat
    split
    · split
      · have := h1 (num * 8) (by omega); simp only [Option.getD_some, List.length_append]; omega
      · simp
    · split
      · split
        · have := h1 (num * 8 + 1) (by omega); simp only [Option.getD_some, List.length_append]; omega
        · simp
      · split
        · split
          · have := h1 (num * 8 + 5) (by omega); simp only [Option.getD_some, List.length_append]; omega
          · simp
        · split
          · have := h1 (num * 8 + 2) (by omega); simp only [Option.getD_some, List.length_append]; omega
          · simp
theorem lastV_get (o : Option WF) : ∃ (x : WF) (is : Bool), lastV o = .tuple #[x.v, .bool is] := by
  cases o with
  | none => exact ⟨⟨0, 0, 0, []⟩, false, rfl⟩
  | some x => exact ⟨x, true, rfl⟩
def blkOf : Value → Nat
  | .pointer (some a) => a.block
  | _ => 0
theorem wrap_nat (z : Int) : ∃ u : Nat, IntKind.u64.wrap z = (u : Int) ∧ u < 18446744073709551616 := ⟨(IntKind.u64.wrap z).toNat, by rw [IntKind.wrap_u64]; omega, by rw [IntKind.wrap_u64]; omega⟩
set_option maxRecDepth 100000 in
set_option maxHeartbeats 8000000 in
theorem wireParses_ca {p q : Addr} {w : World} (hg : Glo w p q) (l : List WF) (sl : Value) (hsl : SlR w 4 sl l.length (FL l)) (hll : l.length ≤ 9223372036854775807) (hlx : ∀ x ∈ l, x.n < 18446744073709551616 ∧ x.s.length ≤ 2000000)
    (s : List UInt8) (hs : s.length ≤ 2000000) (own : Bool) (at' : Int) (hat' : -9223372036854775808 ≤ at' ∧ at' ≤ 9223372036854775807) (by' : UInt8) (num : Int) (hnum : -9223372036854775808 ≤ num ∧ num ≤ 9223372036854775807) :
    Ca Tryd.prog 8 #[sl, S s, .bool own, .int .i64 at', .int .u8 (by'.toNat : Int), .int .i64 num] w fun v w' => v = .bool true ∧ Keeps NoB w w' := by
  obtain ⟨al, cl, rfl, hcl, hal⟩ := hsl.shape
  refine ca_of_body (args := [.slice al l.length cl, S s, .bool own, .int .i64 at', .int .u8 (by'.toNat : Int), .int .i64 num]) Tryd.func8 rfl (by kernel_rfl) ?_
  apply wc_seq
  apply wc_region
  apply wr_assign
  exact rfl
  apply wr_end
  repeat first
    | ((first | apply wr_move | apply wr_assign); exact rfl; with_reducible (conv => enter [6, 3]; whnf))
    | (first | apply wr_end | apply wc_seq | apply wc_region | apply wc_skip | apply wc_block)
    | ((first | apply wr_fieldAddr | apply wr_not | apply wr_len_str | apply wr_len_slice | apply wr_box); iterate 2 exact rfl)
    | (apply wr_load; (iterate 3 exact rfl); (focus repeat first | with_reducible assumption | exact heap_alloc_same _ _ | exact World.putObj_heap_same (by first | omega | (simp only [World.size_alloc, World.putObj_size, ne_eq]; omega)) | ((first | refine hAl ?_ ?_ | refine hPu ?_ ?_); focus first | omega | (simp only [World.size_alloc, World.putObj_size, ne_eq]; omega))); exact rfl; conv => enter [6, 3]; whnf)
    | (apply wr_cmp; (iterate 3 exact rfl); (first | exact cmpT (by dsimp only [cmpP]; first | done | omega) | exact cmpF (by dsimp only [cmpN]; first | done | omega) | exact cmp_lt _ _ | exact cmp_le _ _ | exact cmp_gt _ _ | exact cmp_ge _ _ | exact cmp_eq _ _ | exact cmp_ne _ _))
    | (apply wr_pick (t := true); (iterate 2 exact rfl); with_reducible (conv => enter [6, 3]; whnf))
    | (apply wr_pick (t := false); (iterate 2 exact rfl); with_reducible (conv => enter [6, 3]; whnf))
    | ((first | apply wr_add | apply wr_sub | apply wr_mul); (iterate 3 exact rfl); (first | exact w_fit (by dsimp only [kIn]; first | done | omega) | with_reducible assumption | rfl))
    | (apply wr_conv; (iterate 2 exact rfl); (first | exact w_fit (by dsimp only [kIn]; first | done | omega) | with_reducible assumption | rfl))
    | (apply wr_alloc; exact rfl)
    | (apply wr_extract; (iterate 3 exact rfl); with_reducible (conv => enter [6, 3]; whnf))
    | (apply wr_store; (iterate 3 exact rfl); (first | exact rfl | with_reducible assumption); (focus repeat first | with_reducible assumption | exact heap_alloc_same _ _ | exact World.putObj_heap_same (by first | omega | (simp only [World.size_alloc, World.putObj_size, ne_eq]; omega)) | ((first | refine hAl ?_ ?_ | refine hPu ?_ ?_); focus first | omega | (simp only [World.size_alloc, World.putObj_size, ne_eq]; omega))); exact rfl)
    | (apply wr_cat; (iterate 3 exact rfl); (first | omega | (simp only [List.length_append]; omega)))
    | (apply wr_streqc; (iterate 3 exact rfl); (first | exact decide_eq_true (by with_reducible assumption) | exact decide_eq_false (by with_reducible assumption) | exact decide_eq_true rfl | exact rfl))
    | (apply wr_strnec; (iterate 3 exact rfl); (first | exact decide_eq_true (by with_reducible assumption) | exact decide_eq_false (by with_reducible assumption) | exact decide_eq_true rfl | exact rfl); with_reducible (conv => enter [6, 3]; whnf))
    | (apply wr_bits; exact rfl; (focus (simp; done)); (iterate 2 exact rfl); assumption)
    | (apply wr_eqnil_t; iterate 2 exact rfl)
    | (apply wr_eqnil_f; iterate 2 exact rfl)
    | (apply wr_nenil_f; iterate 2 exact rfl)
    | (apply wr_nenil_t; iterate 2 exact rfl)
    | (apply wc_true; exact rfl)
    | (apply wc_false; exact rfl)
    | (apply wc_exit; try simp only [thenE, inBlockE, bodyQ, ↓reduceIte, Nat.reduceEqDiff])
    | ((first | apply wc_ret | apply wr_nil); try simp only [thenE, inBlockE, bodyQ])
    | (apply wr_skip; exact rfl)
  refine wr_call (vs := []) rfl (examples_ca hg) rfl ?_
  rintro v w1 ⟨rfl, hk1⟩
  repeat first
    | ((first | apply wr_move | apply wr_assign); exact rfl; with_reducible (conv => enter [6, 3]; whnf))
    | (first | apply wr_end | apply wc_seq | apply wc_region | apply wc_skip | apply wc_block)
    | ((first | apply wr_fieldAddr | apply wr_not | apply wr_len_str | apply wr_len_slice | apply wr_box); iterate 2 exact rfl)
    | (apply wr_load; (iterate 3 exact rfl); (focus repeat first | with_reducible assumption | exact heap_alloc_same _ _ | exact World.putObj_heap_same (by first | omega | (simp only [World.size_alloc, World.putObj_size, ne_eq]; omega)) | ((first | refine hAl ?_ ?_ | refine hPu ?_ ?_); focus first | omega | (simp only [World.size_alloc, World.putObj_size, ne_eq]; omega))); exact rfl; conv => enter [6, 3]; whnf)
    | (apply wr_cmp; (iterate 3 exact rfl); (first | exact cmpT (by dsimp only [cmpP]; first | done | omega) | exact cmpF (by dsimp only [cmpN]; first | done | omega) | exact cmp_lt _ _ | exact cmp_le _ _ | exact cmp_gt _ _ | exact cmp_ge _ _ | exact cmp_eq _ _ | exact cmp_ne _ _))
    | (apply wr_pick (t := true); (iterate 2 exact rfl); with_reducible (conv => enter [6, 3]; whnf))
    | (apply wr_pick (t := false); (iterate 2 exact rfl); with_reducible (conv => enter [6, 3]; whnf))
    | ((first | apply wr_add | apply wr_sub | apply wr_mul); (iterate 3 exact rfl); (first | exact w_fit (by dsimp only [kIn]; first | done | omega) | with_reducible assumption | rfl))
    | (apply wr_conv; (iterate 2 exact rfl); (first | exact w_fit (by dsimp only [kIn]; first | done | omega) | with_reducible assumption | rfl))
    | (apply wr_alloc; exact rfl)
    | (apply wr_extract; (iterate 3 exact rfl); with_reducible (conv => enter [6, 3]; whnf))
    | (apply wr_store; (iterate 3 exact rfl); (first | exact rfl | with_reducible assumption); (focus repeat first | with_reducible assumption | exact heap_alloc_same _ _ | exact World.putObj_heap_same (by first | omega | (simp only [World.size_alloc, World.putObj_size, ne_eq]; omega)) | ((first | refine hAl ?_ ?_ | refine hPu ?_ ?_); focus first | omega | (simp only [World.size_alloc, World.putObj_size, ne_eq]; omega))); exact rfl)
    | (apply wr_cat; (iterate 3 exact rfl); (first | omega | (simp only [List.length_append]; omega)))
    | (apply wr_streqc; (iterate 3 exact rfl); (first | exact decide_eq_true (by with_reducible assumption) | exact decide_eq_false (by with_reducible assumption) | exact decide_eq_true rfl | exact rfl))
    | (apply wr_strnec; (iterate 3 exact rfl); (first | exact decide_eq_true (by with_reducible assumption) | exact decide_eq_false (by with_reducible assumption) | exact decide_eq_true rfl | exact rfl); with_reducible (conv => enter [6, 3]; whnf))
    | (apply wr_bits; exact rfl; (focus (simp; done)); (iterate 2 exact rfl); assumption)
    | (apply wr_eqnil_t; iterate 2 exact rfl)
    | (apply wr_eqnil_f; iterate 2 exact rfl)
    | (apply wr_nenil_f; iterate 2 exact rfl)
    | (apply wr_nenil_t; iterate 2 exact rfl)
    | (apply wc_true; exact rfl)
    | (apply wc_false; exact rfl)
    | (apply wc_exit; try simp only [thenE, inBlockE, bodyQ, ↓reduceIte, Nat.reduceEqDiff])
    | ((first | apply wc_ret | apply wr_nil); try simp only [thenE, inBlockE, bodyQ])
    | (apply wr_skip; exact rfl)
  have hk0 := hk1
  refine wc_cut (fun ds f w' => ds = [] ∧ ∃ s' : List UInt8, s'.length ≤ 1000000000 ∧ Slots f [(1, S s'), (2, .bool own), (5, .int .i64 num), (13, .bool true)] ∧ Keeps NoB w w') ?_ ?_
  · cases own
    · (repeat first
  | ((first | apply wr_move | apply wr_assign); exact rfl; with_reducible (conv => enter [6, 3]; whnf))
  | (first | apply wr_end | apply wc_seq | apply wc_region | apply wc_skip | apply wc_block)
  | ((first | apply wr_fieldAddr | apply wr_not | apply wr_len_str | apply wr_len_slice | apply wr_box); iterate 2 exact rfl)
  | (apply wr_load; (iterate 3 exact rfl); (focus repeat first | with_reducible assumption | exact heap_alloc_same _ _ | exact World.putObj_heap_same (by first | omega | (simp only [World.size_alloc, World.putObj_size, ne_eq]; omega)) | ((first | refine hAl ?_ ?_ | refine hPu ?_ ?_); focus first | omega | (simp only [World.size_alloc, World.putObj_size, ne_eq]; omega))); exact rfl; conv => enter [6, 3]; whnf)
  | (apply wr_cmp; (iterate 3 exact rfl); (first | exact cmpT (by dsimp only [cmpP]; first | done | omega) | exact cmpF (by dsimp only [cmpN]; first | done | omega) | exact cmp_lt _ _ | exact cmp_le _ _ | exact cmp_gt _ _ | exact cmp_ge _ _ | exact cmp_eq _ _ | exact cmp_ne _ _))
  | (apply wr_pick (t := true); (iterate 2 exact rfl); with_reducible (conv => enter [6, 3]; whnf))
  | (apply wr_pick (t := false); (iterate 2 exact rfl); with_reducible (conv => enter [6, 3]; whnf))
  | ((first | apply wr_add | apply wr_sub | apply wr_mul); (iterate 3 exact rfl); (first | exact w_fit (by dsimp only [kIn]; first | done | omega) | with_reducible assumption | rfl))
  | (apply wr_conv; (iterate 2 exact rfl); (first | exact w_fit (by dsimp only [kIn]; first | done | omega) | with_reducible assumption | rfl))
  | (apply wr_alloc; exact rfl)
  | (apply wr_extract; (iterate 3 exact rfl); with_reducible (conv => enter [6, 3]; whnf))
  | (apply wr_store; (iterate 3 exact rfl); (first | exact rfl | with_reducible assumption); (focus repeat first | with_reducible assumption | exact heap_alloc_same _ _ | exact World.putObj_heap_same (by first | omega | (simp only [World.size_alloc, World.putObj_size, ne_eq]; omega)) | ((first | refine hAl ?_ ?_ | refine hPu ?_ ?_); focus first | omega | (simp only [World.size_alloc, World.putObj_size, ne_eq]; omega))); exact rfl)
  | (apply wr_cat; (iterate 3 exact rfl); (first | omega | (simp only [List.length_append]; omega)))
  | (apply wr_streqc; (iterate 3 exact rfl); (first | exact decide_eq_true (by with_reducible assumption) | exact decide_eq_false (by with_reducible assumption) | exact decide_eq_true rfl | exact rfl))
  | (apply wr_strnec; (iterate 3 exact rfl); (first | exact decide_eq_true (by with_reducible assumption) | exact decide_eq_false (by with_reducible assumption) | exact decide_eq_true rfl | exact rfl); with_reducible (conv => enter [6, 3]; whnf))
  | (apply wr_bits; exact rfl; (focus (simp; done)); (iterate 2 exact rfl); assumption)
  | (apply wr_eqnil_t; iterate 2 exact rfl)
  | (apply wr_eqnil_f; iterate 2 exact rfl)
  | (apply wr_nenil_f; iterate 2 exact rfl)
  | (apply wr_nenil_t; iterate 2 exact rfl)
  | (apply wc_true; exact rfl)
  | (apply wc_false; exact rfl)
  | (apply wc_exit; try simp only [thenE, inBlockE, bodyQ, ↓reduceIte, Nat.reduceEqDiff])
  | ((first | apply wc_ret | apply wr_nil); try simp only [thenE, inBlockE, bodyQ])
  | (apply wr_skip; exact rfl))
      exact ⟨by trivial, s, by omega, ⟨rfl, rfl, rfl, rfl, trivial⟩, hk1⟩
    · (repeat first
  | ((first | apply wr_move | apply wr_assign); exact rfl; with_reducible (conv => enter [6, 3]; whnf))
  | (first | apply wr_end | apply wc_seq | apply wc_region | apply wc_skip | apply wc_block)
  | ((first | apply wr_fieldAddr | apply wr_not | apply wr_len_str | apply wr_len_slice | apply wr_box); iterate 2 exact rfl)
  | (apply wr_load; (iterate 3 exact rfl); (focus repeat first | with_reducible assumption | exact heap_alloc_same _ _ | exact World.putObj_heap_same (by first | omega | (simp only [World.size_alloc, World.putObj_size, ne_eq]; omega)) | ((first | refine hAl ?_ ?_ | refine hPu ?_ ?_); focus first | omega | (simp only [World.size_alloc, World.putObj_size, ne_eq]; omega))); exact rfl; conv => enter [6, 3]; whnf)
  | (apply wr_cmp; (iterate 3 exact rfl); (first | exact cmpT (by dsimp only [cmpP]; first | done | omega) | exact cmpF (by dsimp only [cmpN]; first | done | omega) | exact cmp_lt _ _ | exact cmp_le _ _ | exact cmp_gt _ _ | exact cmp_ge _ _ | exact cmp_eq _ _ | exact cmp_ne _ _))
  | (apply wr_pick (t := true); (iterate 2 exact rfl); with_reducible (conv => enter [6, 3]; whnf))
  | (apply wr_pick (t := false); (iterate 2 exact rfl); with_reducible (conv => enter [6, 3]; whnf))
  | ((first | apply wr_add | apply wr_sub | apply wr_mul); (iterate 3 exact rfl); (first | exact w_fit (by dsimp only [kIn]; first | done | omega) | with_reducible assumption | rfl))
  | (apply wr_conv; (iterate 2 exact rfl); (first | exact w_fit (by dsimp only [kIn]; first | done | omega) | with_reducible assumption | rfl))
  | (apply wr_alloc; exact rfl)
  | (apply wr_extract; (iterate 3 exact rfl); with_reducible (conv => enter [6, 3]; whnf))
  | (apply wr_store; (iterate 3 exact rfl); (first | exact rfl | with_reducible assumption); (focus repeat first | with_reducible assumption | exact heap_alloc_same _ _ | exact World.putObj_heap_same (by first | omega | (simp only [World.size_alloc, World.putObj_size, ne_eq]; omega)) | ((first | refine hAl ?_ ?_ | refine hPu ?_ ?_); focus first | omega | (simp only [World.size_alloc, World.putObj_size, ne_eq]; omega))); exact rfl)
  | (apply wr_cat; (iterate 3 exact rfl); (first | omega | (simp only [List.length_append]; omega)))
  | (apply wr_streqc; (iterate 3 exact rfl); (first | exact decide_eq_true (by with_reducible assumption) | exact decide_eq_false (by with_reducible assumption) | exact decide_eq_true rfl | exact rfl))
  | (apply wr_strnec; (iterate 3 exact rfl); (first | exact decide_eq_true (by with_reducible assumption) | exact decide_eq_false (by with_reducible assumption) | exact decide_eq_true rfl | exact rfl); with_reducible (conv => enter [6, 3]; whnf))
  | (apply wr_bits; exact rfl; (focus (simp; done)); (iterate 2 exact rfl); assumption)
  | (apply wr_eqnil_t; iterate 2 exact rfl)
  | (apply wr_eqnil_f; iterate 2 exact rfl)
  | (apply wr_nenil_f; iterate 2 exact rfl)
  | (apply wr_nenil_t; iterate 2 exact rfl)
  | (apply wc_true; exact rfl)
  | (apply wc_false; exact rfl)
  | (apply wc_exit; try simp only [thenE, inBlockE, bodyQ, ↓reduceIte, Nat.reduceEqDiff])
  | ((first | apply wc_ret | apply wr_nil); try simp only [thenE, inBlockE, bodyQ])
  | (apply wr_skip; exact rfl))
      refine wc_loopL (α := Nat × List UInt8) (fun x => [(0, .slice al l.length cl), (1, S x.2), (2, .bool true), (3, .int .i64 at'), (4, .int .u8 (by'.toNat : Int)), (5, .int .i64 num), (13, .bool true), (14, .int .i64 (x.1 : Int))])
        (fun x ds w' => ds = [] ∧ x.1 ≤ l.length ∧ x.1 ≤ 8 ∧ x.2.length ≤ x.1 * 2000100 ∧ Keeps NoB w w') (fun x => 8 - x.1) (0, []) ⟨rfl, Nat.zero_le _, Nat.zero_le _, by simp, hk1⟩ ⟨rfl, rfl, rfl, rfl, rfl, rfl, rfl, rfl, trivial⟩ ?_
      rintro ⟨i, acc⟩ ds f0 w2 ⟨rfl, hi, hi8, hacc, hk2⟩
      dsimp only at hi hi8 hacc ⊢
      by_cases hc : i < l.length ∧ i < 8
      · obtain ⟨hlt, hc8⟩ := hc
        obtain ⟨b, o, rfl, cur, e, fr, hb, hr⟩ := hal (by omega)
        have hb2 := hk2.heap hb (fun h => h)
        obtain ⟨x0, hx0⟩ : ∃ x, l[i]? = some x := ⟨l[i], by simp [hlt]⟩
        obtain ⟨hxn, hxs⟩ := hlx x0 (List.mem_of_getElem? hx0)
        obtain ⟨xn, xk, xv, xs⟩ := x0
        simp only at hxn hxs
        obtain ⟨un, hun, hun'⟩ := wrap_nat xn
        obtain ⟨uk, huk, huk'⟩ := wrap_nat xk
        obtain ⟨kd, hkd, hkd'⟩ : ∃ kd : Int, (#[Value.int .i64 0, .int .i64 2, .int .i64 2, .int .i64 1, .int .i64 5] : Array Value)[0 + uk % 5 * 1]? = some (.int .i64 kd) ∧ (kd = 0 ∨ kd = 2 ∨ kd = 1 ∨ kd = 5) := by
          have h5 : uk % 5 < 5 := Nat.mod_lt _ (by decide)
          rcases (by omega : uk % 5 = 0 ∨ uk % 5 = 1 ∨ uk % 5 = 2 ∨ uk % 5 = 3 ∨ uk % 5 = 4) with h | h | h | h | h <;> rw [h]
          · exact ⟨0, rfl, by omega⟩
          · exact ⟨2, rfl, by omega⟩
          · exact ⟨2, rfl, by omega⟩
          · exact ⟨1, rfl, by omega⟩
          · exact ⟨5, rfl, by omega⟩
        have hn1 : (1 : Int) + ((un % 20 : Nat) : Int) = ((1 + un % 20 : Nat) : Int) := by omega
        have hm5 : uk % 5 < 5 := Nat.mod_lt _ (by decide)
        have hm20 : un % 20 < 20 := Nat.mod_lt _ (by decide)
        repeat first
          | ((first | apply wr_move | apply wr_assign); exact rfl; with_reducible (conv => enter [6, 3]; whnf))
          | (first | apply wr_end | apply wc_seq | apply wc_region | apply wc_skip | apply wc_block)
          | ((first | apply wr_fieldAddr | apply wr_not | apply wr_len_str | apply wr_len_slice | apply wr_box); iterate 2 exact rfl)
          | (apply wr_load; (iterate 3 exact rfl); (focus repeat first | with_reducible assumption | exact heap_alloc_same _ _ | exact World.putObj_heap_same (by first | omega | (simp only [World.size_alloc, World.putObj_size, ne_eq]; omega)) | ((first | refine hAl ?_ ?_ | refine hPu ?_ ?_); focus first | omega | (simp only [World.size_alloc, World.putObj_size, ne_eq]; omega))); exact rfl; conv => enter [6, 3]; whnf)
          | (apply wr_cmp; (iterate 3 exact rfl); (first | exact cmpT (by dsimp only [cmpP]; first | done | omega) | exact cmpF (by dsimp only [cmpN]; first | done | omega) | exact cmp_lt _ _ | exact cmp_le _ _ | exact cmp_gt _ _ | exact cmp_ge _ _ | exact cmp_eq _ _ | exact cmp_ne _ _))
          | (apply wr_pick (t := true); (iterate 2 exact rfl); with_reducible (conv => enter [6, 3]; whnf))
          | (apply wr_pick (t := false); (iterate 2 exact rfl); with_reducible (conv => enter [6, 3]; whnf))
          | ((first | apply wr_add | apply wr_sub | apply wr_mul); (iterate 3 exact rfl); (first | exact w_fit (by dsimp only [kIn]; first | done | omega) | with_reducible assumption | rfl))
          | (apply wr_conv; (iterate 2 exact rfl); (first | exact w_fit (by dsimp only [kIn]; first | done | omega) | with_reducible assumption | rfl))
          | (apply wr_alloc; exact rfl)
          | (apply wr_extract; (iterate 3 exact rfl); with_reducible (conv => enter [6, 3]; whnf))
          | (apply wr_store; (iterate 3 exact rfl); (first | exact rfl | with_reducible assumption); (focus repeat first | with_reducible assumption | exact heap_alloc_same _ _ | exact World.putObj_heap_same (by first | omega | (simp only [World.size_alloc, World.putObj_size, ne_eq]; omega)) | ((first | refine hAl ?_ ?_ | refine hPu ?_ ?_); focus first | omega | (simp only [World.size_alloc, World.putObj_size, ne_eq]; omega))); exact rfl)
          | (apply wr_cat; (iterate 3 exact rfl); (first | omega | (simp only [List.length_append]; omega)))
          | (apply wr_streqc; (iterate 3 exact rfl); (first | exact decide_eq_true (by with_reducible assumption) | exact decide_eq_false (by with_reducible assumption) | exact decide_eq_true rfl | exact rfl))
          | (apply wr_strnec; (iterate 3 exact rfl); (first | exact decide_eq_true (by with_reducible assumption) | exact decide_eq_false (by with_reducible assumption) | exact decide_eq_true rfl | exact rfl); with_reducible (conv => enter [6, 3]; whnf))
          | (apply wr_bits; exact rfl; (focus (simp; done)); (iterate 2 exact rfl); assumption)
          | (apply wr_eqnil_t; iterate 2 exact rfl)
          | (apply wr_eqnil_f; iterate 2 exact rfl)
          | (apply wr_nenil_f; iterate 2 exact rfl)
          | (apply wr_nenil_t; iterate 2 exact rfl)
          | (apply wc_true; exact rfl)
          | (apply wc_false; exact rfl)
          | (apply wc_exit; try simp only [thenE, inBlockE, bodyQ, ↓reduceIte, Nat.reduceEqDiff])
          | ((first | apply wc_ret | apply wr_nil); try simp only [thenE, inBlockE, bodyQ])
          | (apply wr_skip; exact rfl)
        refine wc_drawP (l := _) 31 _ (by kernel_rfl) (by kernel_rfl) rfl (by kernel_rfl) (by kernel_rfl) (by decide) ?_
        apply chP_pure
        focus
          intro x w' hk hF
          apply wr_move; exact rfl
          apply wr_nil
          exact ⟨rfl, Keeps.refl _ _⟩
        focus (intro x y h; rfl)
        focus kernel_rfl
        apply chP_pure
        focus
          intro x w' hk hF
          apply wr_move; exact rfl
          apply wr_nil
          exact ⟨rfl, Keeps.refl _ _⟩
        focus (intro x y h; rfl)
        focus kernel_rfl
        apply chP_pure
        focus
          intro x w' hk hF
          refine wr_indexAddr (i := i) rfl rfl rfl hlt ?_
          apply wr_nil
          exact ⟨rfl, Keeps.refl _ _⟩
        focus (intro x y h; rfl)
        focus kernel_rfl
        apply chP_pure
        focus
          intro x w' hk hF
          refine wr_fieldAddr rfl rfl ?_
          apply wr_nil
          exact ⟨rfl, Keeps.refl _ _⟩
        focus (intro x y h; rfl)
        focus kernel_rfl
        apply chP_pure
        focus
          intro x w' hk hF
          refine wr_load (v := .int .i64 xn) rfl rfl rfl (hk.heap (a := w2.drew) hb2 (fun h => h)) (cell_elem (g := WF.cs) (k := 4) (n := l.length) (i := i) (j := 0) WF.cs_len hr hlt hx0 rfl) ?_
          apply wr_nil
          exact ⟨rfl, Keeps.refl _ _⟩
        focus (intro x y h; rfl)
        focus kernel_rfl
        apply chP_pure
        focus
          intro x w' hk hF
          refine wr_conv rfl rfl hun ?_
          apply wr_nil
          exact ⟨rfl, Keeps.refl _ _⟩
        focus (intro x y h; rfl)
        focus kernel_rfl
        apply chP_pure
        focus
          intro x w' hk hF
          refine wr_remN (n := un) (m := 20) rfl rfl rfl (by decide) ?_
          apply wr_nil
          exact ⟨rfl, Keeps.refl _ _⟩
        focus (intro x y h; rfl)
        focus kernel_rfl
        apply chP_pure
        focus
          intro x w' hk hF
          refine wr_conv rfl rfl (w_i64 (by omega)) ?_
          apply wr_nil
          exact ⟨rfl, Keeps.refl _ _⟩
        focus (intro x y h; rfl)
        focus kernel_rfl
        apply chP_pure
        focus
          intro x w' hk hF
          refine wr_add (c := ((1 + un % 20 : Nat) : Int)) rfl rfl rfl (by rw [hn1]; exact w_i64 (by omega)) ?_
          apply wr_nil
          exact ⟨rfl, Keeps.refl _ _⟩
        focus (intro x y h; rfl)
        focus kernel_rfl
        refine chP_fact (fun y => .slice (some ⟨blkOf y, 0, none⟩) 5 5) (fun y w => w.heap[blkOf y]? = some (.cells #[.int .i64 0, .int .i64 2, .int .i64 2, .int .i64 1, .int .i64 5] 3 (0, 0))) (fun y w w' h k => k.heap h (fun h => h)) ?_ ?_
        focus
          intro x w' hk hF
          refine wr_buildSlice (vs := [.int .i64 0, .int .i64 2, .int .i64 2, .int .i64 1, .int .i64 5]) rfl rfl (by intro v hv; simp at hv; rcases hv with rfl | rfl | rfl | rfl | rfl <;> rfl) rfl (by decide) (by decide) (by decide) ?_
          apply wr_nil
          exact ⟨.pointer (some ⟨w'.heap.size, 0, none⟩), rfl, heap_alloc_same _ _, (Keeps.refl _ _).alloc _⟩
        apply chP_pure
        focus
          intro x w' hk hF
          apply wr_move; exact rfl
          apply wr_nil
          exact ⟨rfl, Keeps.refl _ _⟩
        focus (intro x y h; rfl)
        focus kernel_rfl
        apply chP_pure
        focus
          intro x w' hk hF
          apply wr_move; exact rfl
          apply wr_nil
          exact ⟨rfl, Keeps.refl _ _⟩
        focus (intro x y h; rfl)
        focus kernel_rfl
        apply chP_pure
        focus
          intro x w' hk hF
          refine wr_indexAddr (i := i) rfl rfl rfl hlt ?_
          apply wr_nil
          exact ⟨rfl, Keeps.refl _ _⟩
        focus (intro x y h; rfl)
        focus kernel_rfl
        apply chP_pure
        focus
          intro x w' hk hF
          refine wr_fieldAddr rfl rfl ?_
          apply wr_nil
          exact ⟨rfl, Keeps.refl _ _⟩
        focus (intro x y h; rfl)
        focus kernel_rfl
        apply chP_pure
        focus
          intro x w' hk hF
          refine wr_load (v := .int .i64 xk) rfl rfl rfl (hk.heap (a := w2.drew) hb2 (fun h => h)) (cell_elem (g := WF.cs) (k := 4) (n := l.length) (i := i) (j := 1) WF.cs_len hr hlt hx0 rfl) ?_
          apply wr_nil
          exact ⟨rfl, Keeps.refl _ _⟩
        focus (intro x y h; rfl)
        focus kernel_rfl
        apply chP_pure
        focus
          intro x w' hk hF
          refine wr_conv rfl rfl huk ?_
          apply wr_nil
          exact ⟨rfl, Keeps.refl _ _⟩
        focus (intro x y h; rfl)
        focus kernel_rfl
        apply chP_pure
        focus
          intro x w' hk hF
          refine wr_remN (n := uk) (m := 5) rfl rfl rfl (by decide) ?_
          apply wr_nil
          exact ⟨rfl, Keeps.refl _ _⟩
        focus (intro x y h; rfl)
        focus kernel_rfl
        apply chP_pure
        focus
          intro x w' hk hF
          refine wr_indexAddr (i := uk % 5) rfl rfl rfl hm5 ?_
          apply wr_nil
          exact ⟨rfl, Keeps.refl _ _⟩
        focus (intro x y h; rw [h 9 (by kernel_rfl)])
        focus kernel_rfl
        apply chP_pure
        focus
          intro x w' hk hF
          refine wr_load (v := .int .i64 kd) rfl rfl rfl (hF 9 (by kernel_rfl)) hkd ?_
          apply wr_nil
          exact ⟨rfl, Keeps.refl _ _⟩
        focus (intro x y h; rfl)
        focus kernel_rfl
        apply chP_pure
        focus
          intro x w' hk hF
          apply wr_move; exact rfl
          apply wr_nil
          exact ⟨rfl, Keeps.refl _ _⟩
        focus (intro x y h; rfl)
        focus kernel_rfl
        apply chP_pure
        focus
          intro x w' hk hF
          apply wr_move; exact rfl
          apply wr_nil
          exact ⟨rfl, Keeps.refl _ _⟩
        focus (intro x y h; rfl)
        focus kernel_rfl
        apply chP_pure
        focus
          intro x w' hk hF
          refine wr_indexAddr (i := i) rfl rfl rfl hlt ?_
          apply wr_nil
          exact ⟨rfl, Keeps.refl _ _⟩
        focus (intro x y h; rfl)
        focus kernel_rfl
        apply chP_pure
        focus
          intro x w' hk hF
          refine wr_fieldAddr rfl rfl ?_
          apply wr_nil
          exact ⟨rfl, Keeps.refl _ _⟩
        focus (intro x y h; rfl)
        focus kernel_rfl
        apply chP_pure
        focus
          intro x w' hk hF
          refine wr_load (v := .int .u64 (xv : Int)) rfl rfl rfl (hk.heap (a := w2.drew) hb2 (fun h => h)) (cell_elem (g := WF.cs) (k := 4) (n := l.length) (i := i) (j := 2) WF.cs_len hr hlt hx0 rfl) ?_
          apply wr_nil
          exact ⟨rfl, Keeps.refl _ _⟩
        focus (intro x y h; rfl)
        focus kernel_rfl
        apply chP_pure
        focus
          intro x w' hk hF
          apply wr_move; exact rfl
          apply wr_nil
          exact ⟨rfl, Keeps.refl _ _⟩
        focus (intro x y h; rfl)
        focus kernel_rfl
        apply chP_pure
        focus
          intro x w' hk hF
          apply wr_move; exact rfl
          apply wr_nil
          exact ⟨rfl, Keeps.refl _ _⟩
        focus (intro x y h; rfl)
        focus kernel_rfl
        apply chP_pure
        focus
          intro x w' hk hF
          refine wr_indexAddr (i := i) rfl rfl rfl hlt ?_
          apply wr_nil
          exact ⟨rfl, Keeps.refl _ _⟩
        focus (intro x y h; rfl)
        focus kernel_rfl
        apply chP_pure
        focus
          intro x w' hk hF
          refine wr_fieldAddr rfl rfl ?_
          apply wr_nil
          exact ⟨rfl, Keeps.refl _ _⟩
        focus (intro x y h; rfl)
        focus kernel_rfl
        apply chP_pure
        focus
          intro x w' hk hF
          refine wr_load (v := S xs) rfl rfl rfl (hk.heap (a := w2.drew) hb2 (fun h => h)) (cell_elem (g := WF.cs) (k := 4) (n := l.length) (i := i) (j := 3) WF.cs_len hr hlt hx0 rfl) ?_
          apply wr_nil
          exact ⟨rfl, Keeps.refl _ _⟩
        focus (intro x y h; rfl)
        focus kernel_rfl
        apply chP_pure
        focus
          intro x w' hk hF
          refine wr_build (ps := [(0, .int .i64 ((1 + un % 20 : Nat) : Int)), (1, .int .i64 kd), (2, .int .u64 (xv : Int)), (3, S xs)]) (cs := [.int .i64 ((1 + un % 20 : Nat) : Int), .int .i64 kd, .int .u64 (xv : Int), S xs]) rfl rfl rfl rfl ?_
          apply wr_nil
          exact ⟨rfl, Keeps.refl _ _⟩
        focus (intro x y h; rfl)
        focus kernel_rfl
        refine chP_fact (fun y => .pointer (some ⟨blkOf y, 0, none⟩)) (fun y w' => w'.heap[blkOf y]? = some (.cells (Value.agg #[.int .i64 0, .int .i64 0, .int .u64 0, S []]).cells 29 (0, 0)) ∧ w2.heap.size ≤ blkOf y) (fun y w w' h k => ⟨k.heap h.1 (fun h => h), h.2⟩) ?_ ?_
        focus
          intro x w' hk hF
          apply wr_alloc; exact rfl
          apply wr_nil
          exact ⟨.pointer (some ⟨w'.heap.size, 0, none⟩), rfl, ⟨heap_alloc_same _ _, hk.size⟩, (Keeps.refl _ _).alloc _⟩
        refine chP_nil ?_
        intro x w3 hk3 hF
        obtain ⟨hf3, hge⟩ : w3.heap[blkOf (x 30)]? = some (.cells (Value.agg #[.int .i64 0, .int .i64 0, .int .u64 0, S []]).cells 29 (0, 0)) ∧ w2.heap.size ≤ blkOf (x 30) := hF 30 (by decide)
        have hk13 : Keeps NoB w w3 := hk2.trans ((Keeps.refl NoB w2).drew.trans hk3)
        have hsw := hk2.size
        refine wr_storeAll (b := blkOf (x 30)) (cs := [.int .i64 ((1 + un % 20 : Nat) : Int), .int .i64 kd, .int .u64 (xv : Int), S xs]) rfl rfl rfl (by intro u hu; simp at hu; rcases hu with rfl | rfl | rfl | rfl <;> rfl) hf3 rfl rfl ?_
        apply wr_end
        refine wc_keep [(0, .slice (some ⟨b, o, none⟩) l.length cl), (1, S acc), (2, .bool true), (3, .int .i64 at'), (4, .int .u8 (by'.toNat : Int)), (5, .int .i64 num), (13, .bool true), (14, .int .i64 (i : Int)), (15, .pointer (some ⟨blkOf (x 30), 0, none⟩))] ⟨rfl, rfl, rfl, rfl, rfl, rfl, rfl, rfl, rfl, trivial⟩ ?_
        intro f1
        generalize blkOf (x 30) = fb at hf3 hge ⊢
        clear hF x
        have hf4 : (w3.putObj fb (.cells #[.int .i64 ((1 + un % 20 : Nat) : Int), .int .i64 kd, .int .u64 (xv : Int), S xs] 29 (0, 0))).heap[fb]? = some (.cells #[.int .i64 ((1 + un % 20 : Nat) : Int), .int .i64 kd, .int .u64 (xv : Int), S xs] 29 (0, 0)) := World.putObj_heap_same (lt_of_heap hf3)
        have hk4 : Keeps NoB w (w3.putObj fb (.cells #[.int .i64 ((1 + un % 20 : Nat) : Int), .int .i64 kd, .int .u64 (xv : Int), S xs] 29 (0, 0))) := hk13.put _ (fun h => by omega)
        generalize w3.putObj fb (.cells #[.int .i64 ((1 + un % 20 : Nat) : Int), .int .i64 kd, .int .u64 (xv : Int), S xs] 29 (0, 0)) = w4 at hf4 hk4 ⊢
        clear hf3 hk13 hk3 hb2
        have hl4 := lt_of_heap hf4
        apply wc_seq
        refine wc_cut (fun ds f w' => ds = [] ∧ ∃ xv' : Nat, xv' < 18446744073709551616 ∧ Slots f [(0, .slice (some ⟨b, o, none⟩) l.length cl), (1, S acc), (2, .bool true), (3, .int .i64 at'), (4, .int .u8 (by'.toNat : Int)), (5, .int .i64 num), (13, .bool true), (14, .int .i64 (i : Int)), (15, .pointer (some ⟨fb, 0, none⟩))] ∧ w'.heap[fb]? = some (.cells #[.int .i64 ((1 + un % 20 : Nat) : Int), .int .i64 kd, .int .u64 (xv' : Int), S xs] 29 (0, 0)) ∧ Keeps NoB w w') ?_ ?_
        · by_cases h0 : kd = 0
          · (repeat first
  | ((first | apply wr_move | apply wr_assign); exact rfl; with_reducible (conv => enter [6, 3]; whnf))
  | (first | apply wr_end | apply wc_seq | apply wc_region | apply wc_skip | apply wc_block)
  | ((first | apply wr_fieldAddr | apply wr_not | apply wr_len_str | apply wr_len_slice | apply wr_box); iterate 2 exact rfl)
  | (apply wr_load; (iterate 3 exact rfl); (focus repeat first | with_reducible assumption | exact heap_alloc_same _ _ | exact World.putObj_heap_same (by first | omega | (simp only [World.size_alloc, World.putObj_size, ne_eq]; omega)) | ((first | refine hAl ?_ ?_ | refine hPu ?_ ?_); focus first | omega | (simp only [World.size_alloc, World.putObj_size, ne_eq]; omega))); exact rfl; conv => enter [6, 3]; whnf)
  | (apply wr_cmp; (iterate 3 exact rfl); (first | exact cmpT (by dsimp only [cmpP]; first | done | omega) | exact cmpF (by dsimp only [cmpN]; first | done | omega) | exact cmp_lt _ _ | exact cmp_le _ _ | exact cmp_gt _ _ | exact cmp_ge _ _ | exact cmp_eq _ _ | exact cmp_ne _ _))
  | (apply wr_pick (t := true); (iterate 2 exact rfl); with_reducible (conv => enter [6, 3]; whnf))
  | (apply wr_pick (t := false); (iterate 2 exact rfl); with_reducible (conv => enter [6, 3]; whnf))
  | ((first | apply wr_add | apply wr_sub | apply wr_mul); (iterate 3 exact rfl); (first | exact w_fit (by dsimp only [kIn]; first | done | omega) | with_reducible assumption | rfl))
  | (apply wr_conv; (iterate 2 exact rfl); (first | exact w_fit (by dsimp only [kIn]; first | done | omega) | with_reducible assumption | rfl))
  | (apply wr_alloc; exact rfl)
  | (apply wr_extract; (iterate 3 exact rfl); with_reducible (conv => enter [6, 3]; whnf))
  | (apply wr_store; (iterate 3 exact rfl); (first | exact rfl | with_reducible assumption); (focus repeat first | with_reducible assumption | exact heap_alloc_same _ _ | exact World.putObj_heap_same (by first | omega | (simp only [World.size_alloc, World.putObj_size, ne_eq]; omega)) | ((first | refine hAl ?_ ?_ | refine hPu ?_ ?_); focus first | omega | (simp only [World.size_alloc, World.putObj_size, ne_eq]; omega))); exact rfl)
  | (apply wr_cat; (iterate 3 exact rfl); (first | omega | (simp only [List.length_append]; omega)))
  | (apply wr_streqc; (iterate 3 exact rfl); (first | exact decide_eq_true (by with_reducible assumption) | exact decide_eq_false (by with_reducible assumption) | exact decide_eq_true rfl | exact rfl))
  | (apply wr_strnec; (iterate 3 exact rfl); (first | exact decide_eq_true (by with_reducible assumption) | exact decide_eq_false (by with_reducible assumption) | exact decide_eq_true rfl | exact rfl); with_reducible (conv => enter [6, 3]; whnf))
  | (apply wr_bits; exact rfl; (focus (simp; done)); (iterate 2 exact rfl); assumption)
  | (apply wr_eqnil_t; iterate 2 exact rfl)
  | (apply wr_eqnil_f; iterate 2 exact rfl)
  | (apply wr_nenil_f; iterate 2 exact rfl)
  | (apply wr_nenil_t; iterate 2 exact rfl)
  | (apply wc_true; exact rfl)
  | (apply wc_false; exact rfl)
  | (apply wc_exit; try simp only [thenE, inBlockE, bodyQ, ↓reduceIte, Nat.reduceEqDiff])
  | ((first | apply wc_ret | apply wr_nil); try simp only [thenE, inBlockE, bodyQ])
  | (apply wr_skip; exact rfl))
            exact ⟨by trivial, xv, hxn, ⟨rfl, rfl, rfl, rfl, rfl, rfl, rfl, rfl, rfl, trivial⟩, hf4, hk4⟩
          · (repeat first
  | ((first | apply wr_move | apply wr_assign); exact rfl; with_reducible (conv => enter [6, 3]; whnf))
  | (first | apply wr_end | apply wc_seq | apply wc_region | apply wc_skip | apply wc_block)
  | ((first | apply wr_fieldAddr | apply wr_not | apply wr_len_str | apply wr_len_slice | apply wr_box); iterate 2 exact rfl)
  | (apply wr_load; (iterate 3 exact rfl); (focus repeat first | with_reducible assumption | exact heap_alloc_same _ _ | exact World.putObj_heap_same (by first | omega | (simp only [World.size_alloc, World.putObj_size, ne_eq]; omega)) | ((first | refine hAl ?_ ?_ | refine hPu ?_ ?_); focus first | omega | (simp only [World.size_alloc, World.putObj_size, ne_eq]; omega))); exact rfl; conv => enter [6, 3]; whnf)
  | (apply wr_cmp; (iterate 3 exact rfl); (first | exact cmpT (by dsimp only [cmpP]; first | done | omega) | exact cmpF (by dsimp only [cmpN]; first | done | omega) | exact cmp_lt _ _ | exact cmp_le _ _ | exact cmp_gt _ _ | exact cmp_ge _ _ | exact cmp_eq _ _ | exact cmp_ne _ _))
  | (apply wr_pick (t := true); (iterate 2 exact rfl); with_reducible (conv => enter [6, 3]; whnf))
  | (apply wr_pick (t := false); (iterate 2 exact rfl); with_reducible (conv => enter [6, 3]; whnf))
  | ((first | apply wr_add | apply wr_sub | apply wr_mul); (iterate 3 exact rfl); (first | exact w_fit (by dsimp only [kIn]; first | done | omega) | with_reducible assumption | rfl))
  | (apply wr_conv; (iterate 2 exact rfl); (first | exact w_fit (by dsimp only [kIn]; first | done | omega) | with_reducible assumption | rfl))
  | (apply wr_alloc; exact rfl)
  | (apply wr_extract; (iterate 3 exact rfl); with_reducible (conv => enter [6, 3]; whnf))
  | (apply wr_store; (iterate 3 exact rfl); (first | exact rfl | with_reducible assumption); (focus repeat first | with_reducible assumption | exact heap_alloc_same _ _ | exact World.putObj_heap_same (by first | omega | (simp only [World.size_alloc, World.putObj_size, ne_eq]; omega)) | ((first | refine hAl ?_ ?_ | refine hPu ?_ ?_); focus first | omega | (simp only [World.size_alloc, World.putObj_size, ne_eq]; omega))); exact rfl)
  | (apply wr_cat; (iterate 3 exact rfl); (first | omega | (simp only [List.length_append]; omega)))
  | (apply wr_streqc; (iterate 3 exact rfl); (first | exact decide_eq_true (by with_reducible assumption) | exact decide_eq_false (by with_reducible assumption) | exact decide_eq_true rfl | exact rfl))
  | (apply wr_strnec; (iterate 3 exact rfl); (first | exact decide_eq_true (by with_reducible assumption) | exact decide_eq_false (by with_reducible assumption) | exact decide_eq_true rfl | exact rfl); with_reducible (conv => enter [6, 3]; whnf))
  | (apply wr_bits; exact rfl; (focus (simp; done)); (iterate 2 exact rfl); assumption)
  | (apply wr_eqnil_t; iterate 2 exact rfl)
  | (apply wr_eqnil_f; iterate 2 exact rfl)
  | (apply wr_nenil_f; iterate 2 exact rfl)
  | (apply wr_nenil_t; iterate 2 exact rfl)
  | (apply wc_true; exact rfl)
  | (apply wc_false; exact rfl)
  | (apply wc_exit; try simp only [thenE, inBlockE, bodyQ, ↓reduceIte, Nat.reduceEqDiff])
  | ((first | apply wc_ret | apply wr_nil); try simp only [thenE, inBlockE, bodyQ])
  | (apply wr_skip; exact rfl))
            exact ⟨by trivial, 0, by decide, ⟨rfl, rfl, rfl, rfl, rfl, rfl, rfl, rfl, rfl, trivial⟩, World.putObj_heap_same hl4, hk4.put _ (fun h => by omega)⟩
        rintro ds f w5 ⟨rfl, xv', hxv', hslots, hf5, hk5⟩
        refine wc_keep _ hslots ?_
        intro f2
        clear hslots hf4 hk4 hl4 f
        have hl5 := lt_of_heap hf5
        apply wc_seq
        refine wc_cut (fun ds f w' => ds = [] ∧ ∃ xs' : List UInt8, xs'.length ≤ 2000008 ∧ Slots f [(0, .slice (some ⟨b, o, none⟩) l.length cl), (1, S acc), (2, .bool true), (3, .int .i64 at'), (4, .int .u8 (by'.toNat : Int)), (5, .int .i64 num), (13, .bool true), (14, .int .i64 (i : Int)), (15, .pointer (some ⟨fb, 0, none⟩))] ∧ w'.heap[fb]? = some (.cells #[.int .i64 ((1 + un % 20 : Nat) : Int), .int .i64 kd, .int .u64 (xv' : Int), S xs'] 29 (0, 0)) ∧ Keeps NoB w w') ?_ ?_
        · by_cases h2 : kd = 2
          · (repeat first
  | ((first | apply wr_move | apply wr_assign); exact rfl; with_reducible (conv => enter [6, 3]; whnf))
  | (first | apply wr_end | apply wc_seq | apply wc_region | apply wc_skip | apply wc_block)
  | ((first | apply wr_fieldAddr | apply wr_not | apply wr_len_str | apply wr_len_slice | apply wr_box); iterate 2 exact rfl)
  | (apply wr_load; (iterate 3 exact rfl); (focus repeat first | with_reducible assumption | exact heap_alloc_same _ _ | exact World.putObj_heap_same (by first | omega | (simp only [World.size_alloc, World.putObj_size, ne_eq]; omega)) | ((first | refine hAl ?_ ?_ | refine hPu ?_ ?_); focus first | omega | (simp only [World.size_alloc, World.putObj_size, ne_eq]; omega))); exact rfl; conv => enter [6, 3]; whnf)
  | (apply wr_cmp; (iterate 3 exact rfl); (first | exact cmpT (by dsimp only [cmpP]; first | done | omega) | exact cmpF (by dsimp only [cmpN]; first | done | omega) | exact cmp_lt _ _ | exact cmp_le _ _ | exact cmp_gt _ _ | exact cmp_ge _ _ | exact cmp_eq _ _ | exact cmp_ne _ _))
  | (apply wr_pick (t := true); (iterate 2 exact rfl); with_reducible (conv => enter [6, 3]; whnf))
  | (apply wr_pick (t := false); (iterate 2 exact rfl); with_reducible (conv => enter [6, 3]; whnf))
  | ((first | apply wr_add | apply wr_sub | apply wr_mul); (iterate 3 exact rfl); (first | exact w_fit (by dsimp only [kIn]; first | done | omega) | with_reducible assumption | rfl))
  | (apply wr_conv; (iterate 2 exact rfl); (first | exact w_fit (by dsimp only [kIn]; first | done | omega) | with_reducible assumption | rfl))
  | (apply wr_alloc; exact rfl)
  | (apply wr_extract; (iterate 3 exact rfl); with_reducible (conv => enter [6, 3]; whnf))
  | (apply wr_store; (iterate 3 exact rfl); (first | exact rfl | with_reducible assumption); (focus repeat first | with_reducible assumption | exact heap_alloc_same _ _ | exact World.putObj_heap_same (by first | omega | (simp only [World.size_alloc, World.putObj_size, ne_eq]; omega)) | ((first | refine hAl ?_ ?_ | refine hPu ?_ ?_); focus first | omega | (simp only [World.size_alloc, World.putObj_size, ne_eq]; omega))); exact rfl)
  | (apply wr_cat; (iterate 3 exact rfl); (first | omega | (simp only [List.length_append]; omega)))
  | (apply wr_streqc; (iterate 3 exact rfl); (first | exact decide_eq_true (by with_reducible assumption) | exact decide_eq_false (by with_reducible assumption) | exact decide_eq_true rfl | exact rfl))
  | (apply wr_strnec; (iterate 3 exact rfl); (first | exact decide_eq_true (by with_reducible assumption) | exact decide_eq_false (by with_reducible assumption) | exact decide_eq_true rfl | exact rfl); with_reducible (conv => enter [6, 3]; whnf))
  | (apply wr_bits; exact rfl; (focus (simp; done)); (iterate 2 exact rfl); assumption)
  | (apply wr_eqnil_t; iterate 2 exact rfl)
  | (apply wr_eqnil_f; iterate 2 exact rfl)
  | (apply wr_nenil_f; iterate 2 exact rfl)
  | (apply wr_nenil_t; iterate 2 exact rfl)
  | (apply wc_true; exact rfl)
  | (apply wc_false; exact rfl)
  | (apply wc_exit; try simp only [thenE, inBlockE, bodyQ, ↓reduceIte, Nat.reduceEqDiff])
  | ((first | apply wc_ret | apply wr_nil); try simp only [thenE, inBlockE, bodyQ])
  | (apply wr_skip; exact rfl))
            exact ⟨by trivial, xs, by omega, ⟨rfl, rfl, rfl, rfl, rfl, rfl, rfl, rfl, rfl, trivial⟩, hf5, hk5⟩
          · obtain ⟨kn, hkn, hkn6, nk, hnk, hnk8⟩ : ∃ kn : Nat, kd = (kn : Int) ∧ kn < 6 ∧ ∃ nk : Nat, (#[Value.int .i64 0, .int .i64 8, .int .i64 0, .int .i64 0, .int .i64 0, .int .i64 4] : Array Value)[0 + kn * 1]? = some (.int .i64 (nk : Int)) ∧ nk ≤ 8 := by
              rcases hkd' with h | h | h | h
              · exact ⟨0, h, by decide, 0, rfl, by decide⟩
              · exact absurd h h2
              · exact ⟨1, h, by decide, 8, rfl, by decide⟩
              · exact ⟨5, h, by decide, 4, rfl, by decide⟩
            subst hkn
            repeat first
              | ((first | apply wr_move | apply wr_assign); exact rfl; with_reducible (conv => enter [6, 3]; whnf))
              | (first | apply wr_end | apply wc_seq | apply wc_region | apply wc_skip | apply wc_block)
              | ((first | apply wr_fieldAddr | apply wr_not | apply wr_len_str | apply wr_len_slice | apply wr_box); iterate 2 exact rfl)
              | (apply wr_load; (iterate 3 exact rfl); (focus repeat first | with_reducible assumption | exact heap_alloc_same _ _ | exact World.putObj_heap_same (by first | omega | (simp only [World.size_alloc, World.putObj_size, ne_eq]; omega)) | ((first | refine hAl ?_ ?_ | refine hPu ?_ ?_); focus first | omega | (simp only [World.size_alloc, World.putObj_size, ne_eq]; omega))); exact rfl; conv => enter [6, 3]; whnf)
              | (apply wr_cmp; (iterate 3 exact rfl); (first | exact cmpT (by dsimp only [cmpP]; first | done | omega) | exact cmpF (by dsimp only [cmpN]; first | done | omega) | exact cmp_lt _ _ | exact cmp_le _ _ | exact cmp_gt _ _ | exact cmp_ge _ _ | exact cmp_eq _ _ | exact cmp_ne _ _))
              | (apply wr_pick (t := true); (iterate 2 exact rfl); with_reducible (conv => enter [6, 3]; whnf))
              | (apply wr_pick (t := false); (iterate 2 exact rfl); with_reducible (conv => enter [6, 3]; whnf))
              | ((first | apply wr_add | apply wr_sub | apply wr_mul); (iterate 3 exact rfl); (first | exact w_fit (by dsimp only [kIn]; first | done | omega) | with_reducible assumption | rfl))
              | (apply wr_conv; (iterate 2 exact rfl); (first | exact w_fit (by dsimp only [kIn]; first | done | omega) | with_reducible assumption | rfl))
              | (apply wr_alloc; exact rfl)
              | (apply wr_extract; (iterate 3 exact rfl); with_reducible (conv => enter [6, 3]; whnf))
              | (apply wr_store; (iterate 3 exact rfl); (first | exact rfl | with_reducible assumption); (focus repeat first | with_reducible assumption | exact heap_alloc_same _ _ | exact World.putObj_heap_same (by first | omega | (simp only [World.size_alloc, World.putObj_size, ne_eq]; omega)) | ((first | refine hAl ?_ ?_ | refine hPu ?_ ?_); focus first | omega | (simp only [World.size_alloc, World.putObj_size, ne_eq]; omega))); exact rfl)
              | (apply wr_cat; (iterate 3 exact rfl); (first | omega | (simp only [List.length_append]; omega)))
              | (apply wr_streqc; (iterate 3 exact rfl); (first | exact decide_eq_true (by with_reducible assumption) | exact decide_eq_false (by with_reducible assumption) | exact decide_eq_true rfl | exact rfl))
              | (apply wr_strnec; (iterate 3 exact rfl); (first | exact decide_eq_true (by with_reducible assumption) | exact decide_eq_false (by with_reducible assumption) | exact decide_eq_true rfl | exact rfl); with_reducible (conv => enter [6, 3]; whnf))
              | (apply wr_bits; exact rfl; (focus (simp; done)); (iterate 2 exact rfl); assumption)
              | (apply wr_eqnil_t; iterate 2 exact rfl)
              | (apply wr_eqnil_f; iterate 2 exact rfl)
              | (apply wr_nenil_f; iterate 2 exact rfl)
              | (apply wr_nenil_t; iterate 2 exact rfl)
              | (apply wc_true; exact rfl)
              | (apply wc_false; exact rfl)
              | (apply wc_exit; try simp only [thenE, inBlockE, bodyQ, ↓reduceIte, Nat.reduceEqDiff])
              | ((first | apply wc_ret | apply wr_nil); try simp only [thenE, inBlockE, bodyQ])
              | (apply wr_skip; exact rfl)
            refine wc_drawP (l := _) 12 _ (by kernel_rfl) (by kernel_rfl) rfl (by kernel_rfl) (by kernel_rfl) (by decide) ?_
            apply chP_pure
            focus
              intro x w' hk hF
              refine wr_fieldAddr rfl rfl ?_
              apply wr_nil
              exact ⟨rfl, Keeps.refl _ _⟩
            focus (intro x y h; rfl)
            focus kernel_rfl
            apply chP_pure
            focus
              intro x w' hk hF
              refine wr_load (v := S xs) rfl rfl rfl (hk.heap (a := w5.drew) hf5 (fun h => h)) rfl ?_
              apply wr_nil
              exact ⟨rfl, Keeps.refl _ _⟩
            focus (intro x y h; rfl)
            focus kernel_rfl
            refine chP_fact (fun y => y) (fun y w => SlR w 1 y 8 (bytesV (List.replicate 8 0))) (fun y w w' h k => h.keep k (fun _ _ h => h)) ?_ ?_
            focus
              intro x w' hk hF
              refine wr_makeN (n := 8) w'.heap.size rfl rfl rfl rfl rfl (by decide) (by decide) (Nat.le_refl _) ?_; intro v' w'' ho' hk' _
              apply wr_nil
              exact ⟨v', rfl, SlR.of_own ho', hk'⟩
            apply chP_pure
            focus
              intro x w' hk hF
              refine wr_bytes2str (l := List.replicate 8 0) rfl rfl (hF 2 (by kernel_rfl)) ?_
              apply wr_nil
              exact ⟨rfl, Keeps.refl _ _⟩
            focus (intro x y h; rfl)
            focus kernel_rfl
            apply chP_pure
            focus
              intro x w' hk hF
              refine wr_cat rfl rfl rfl (by simp; omega) ?_
              apply wr_nil
              exact ⟨rfl, Keeps.refl _ _⟩
            focus (intro x y h; rfl)
            focus kernel_rfl
            refine chP_fact (fun y => .slice (some ⟨blkOf y, 0, none⟩) 6 6) (fun y w => w.heap[blkOf y]? = some (.cells #[.int .i64 0, .int .i64 8, .int .i64 0, .int .i64 0, .int .i64 0, .int .i64 4] 3 (0, 0))) (fun y w w' h k => k.heap h (fun h => h)) ?_ ?_
            focus
              intro x w' hk hF
              refine wr_buildSlice (vs := [.int .i64 0, .int .i64 8, .int .i64 0, .int .i64 0, .int .i64 0, .int .i64 4]) rfl rfl (by intro v hv; simp at hv; rcases hv with rfl | rfl | rfl | rfl | rfl | rfl <;> rfl) rfl (by decide) (by decide) (by decide) ?_
              apply wr_nil
              exact ⟨.pointer (some ⟨w'.heap.size, 0, none⟩), rfl, heap_alloc_same _ _, (Keeps.refl _ _).alloc _⟩
            apply chP_pure
            focus
              intro x w' hk hF
              refine wr_fieldAddr rfl rfl ?_
              apply wr_nil
              exact ⟨rfl, Keeps.refl _ _⟩
            focus (intro x y h; rfl)
            focus kernel_rfl
            apply chP_pure
            focus
              intro x w' hk hF
              refine wr_load (v := .int .i64 (kn : Int)) rfl rfl rfl (hk.heap (a := w5.drew) hf5 (fun h => h)) rfl ?_
              apply wr_nil
              exact ⟨rfl, Keeps.refl _ _⟩
            focus (intro x y h; rfl)
            focus kernel_rfl
            apply chP_pure
            focus
              intro x w' hk hF
              refine wr_indexAddr (i := kn) rfl rfl rfl hkn6 ?_
              apply wr_nil
              exact ⟨rfl, Keeps.refl _ _⟩
            focus (intro x y h; rw [h 5 (by kernel_rfl)])
            focus kernel_rfl
            apply chP_pure
            focus
              intro x w' hk hF
              refine wr_load (v := .int .i64 (nk : Int)) rfl rfl rfl (hF 5 (by kernel_rfl)) hnk ?_
              apply wr_nil
              exact ⟨rfl, Keeps.refl _ _⟩
            focus (intro x y h; rfl)
            focus kernel_rfl
            apply chP_pure
            focus
              intro x w' hk hF
              refine wr_sl_to (j := nk) rfl rfl rfl (by simp; omega) ?_
              apply wr_nil
              exact ⟨rfl, Keeps.refl _ _⟩
            focus (intro x y h; rfl)
            focus kernel_rfl
            apply chP_pure
            focus
              intro x w' hk hF
              refine wr_fieldAddr rfl rfl ?_
              apply wr_nil
              exact ⟨rfl, Keeps.refl _ _⟩
            focus (intro x y h; rfl)
            focus kernel_rfl
            refine chP_nil ?_
            intro x w6 hk6 hF
            have hf6 : w6.heap[fb]? = some (.cells #[.int .i64 ((1 + un % 20 : Nat) : Int), .int .i64 (kn : Int), .int .u64 (xv' : Int), S xs] 29 (0, 0)) := hk6.heap (a := w5.drew) hf5 (fun h => h)
            repeat first
              | ((first | apply wr_move | apply wr_assign); exact rfl; with_reducible (conv => enter [6, 3]; whnf))
              | (first | apply wr_end | apply wc_seq | apply wc_region | apply wc_skip | apply wc_block)
              | ((first | apply wr_fieldAddr | apply wr_not | apply wr_len_str | apply wr_len_slice | apply wr_box); iterate 2 exact rfl)
              | (apply wr_load; (iterate 3 exact rfl); (focus repeat first | with_reducible assumption | exact heap_alloc_same _ _ | exact World.putObj_heap_same (by first | omega | (simp only [World.size_alloc, World.putObj_size, ne_eq]; omega)) | ((first | refine hAl ?_ ?_ | refine hPu ?_ ?_); focus first | omega | (simp only [World.size_alloc, World.putObj_size, ne_eq]; omega))); exact rfl; conv => enter [6, 3]; whnf)
              | (apply wr_cmp; (iterate 3 exact rfl); (first | exact cmpT (by dsimp only [cmpP]; first | done | omega) | exact cmpF (by dsimp only [cmpN]; first | done | omega) | exact cmp_lt _ _ | exact cmp_le _ _ | exact cmp_gt _ _ | exact cmp_ge _ _ | exact cmp_eq _ _ | exact cmp_ne _ _))
              | (apply wr_pick (t := true); (iterate 2 exact rfl); with_reducible (conv => enter [6, 3]; whnf))
              | (apply wr_pick (t := false); (iterate 2 exact rfl); with_reducible (conv => enter [6, 3]; whnf))
              | ((first | apply wr_add | apply wr_sub | apply wr_mul); (iterate 3 exact rfl); (first | exact w_fit (by dsimp only [kIn]; first | done | omega) | with_reducible assumption | rfl))
              | (apply wr_conv; (iterate 2 exact rfl); (first | exact w_fit (by dsimp only [kIn]; first | done | omega) | with_reducible assumption | rfl))
              | (apply wr_alloc; exact rfl)
              | (apply wr_extract; (iterate 3 exact rfl); with_reducible (conv => enter [6, 3]; whnf))
              | (apply wr_store; (iterate 3 exact rfl); (first | exact rfl | with_reducible assumption); (focus repeat first | with_reducible assumption | exact heap_alloc_same _ _ | exact World.putObj_heap_same (by first | omega | (simp only [World.size_alloc, World.putObj_size, ne_eq]; omega)) | ((first | refine hAl ?_ ?_ | refine hPu ?_ ?_); focus first | omega | (simp only [World.size_alloc, World.putObj_size, ne_eq]; omega))); exact rfl)
              | (apply wr_cat; (iterate 3 exact rfl); (first | omega | (simp only [List.length_append]; omega)))
              | (apply wr_streqc; (iterate 3 exact rfl); (first | exact decide_eq_true (by with_reducible assumption) | exact decide_eq_false (by with_reducible assumption) | exact decide_eq_true rfl | exact rfl))
              | (apply wr_strnec; (iterate 3 exact rfl); (first | exact decide_eq_true (by with_reducible assumption) | exact decide_eq_false (by with_reducible assumption) | exact decide_eq_true rfl | exact rfl); with_reducible (conv => enter [6, 3]; whnf))
              | (apply wr_bits; exact rfl; (focus (simp; done)); (iterate 2 exact rfl); assumption)
              | (apply wr_eqnil_t; iterate 2 exact rfl)
              | (apply wr_eqnil_f; iterate 2 exact rfl)
              | (apply wr_nenil_f; iterate 2 exact rfl)
              | (apply wr_nenil_t; iterate 2 exact rfl)
              | (apply wc_true; exact rfl)
              | (apply wc_false; exact rfl)
              | (apply wc_exit; try simp only [thenE, inBlockE, bodyQ, ↓reduceIte, Nat.reduceEqDiff])
              | ((first | apply wc_ret | apply wr_nil); try simp only [thenE, inBlockE, bodyQ])
              | (apply wr_skip; exact rfl)
            refine ⟨by trivial, (xs ++ List.replicate 8 0).take nk, ?_, ⟨rfl, rfl, rfl, rfl, rfl, rfl, rfl, rfl, rfl, trivial⟩, World.putObj_heap_same (lt_of_heap hf6), (hk5.trans ((Keeps.refl NoB w5).drew.trans hk6)).put _ (fun h => by omega)⟩
            rw [List.length_take, List.length_append, List.length_replicate]; omega
        rintro ds f w6 ⟨rfl, xs', hxs', hslots, hf6, hk6⟩
        refine wc_keep _ hslots ?_
        intro f3
        clear hslots hf5 hk5 hl5 f
        have hkdr : -9223372036854775808 ≤ kd ∧ kd ≤ 9223372036854775807 := by omega
        have hnr : (-9223372036854775808 : Int) ≤ ((1 + un % 20 : Nat) : Int) ∧ ((1 + un % 20 : Nat) : Int) ≤ 9223372036854775807 := by omega
        repeat first
          | ((first | apply wr_move | apply wr_assign); exact rfl; with_reducible (conv => enter [6, 3]; whnf))
          | (first | apply wr_end | apply wc_seq | apply wc_region | apply wc_skip | apply wc_block)
          | ((first | apply wr_fieldAddr | apply wr_not | apply wr_len_str | apply wr_len_slice | apply wr_box); iterate 2 exact rfl)
          | (apply wr_load; (iterate 3 exact rfl); (focus repeat first | with_reducible assumption | exact heap_alloc_same _ _ | exact World.putObj_heap_same (by first | omega | (simp only [World.size_alloc, World.putObj_size, ne_eq]; omega)) | ((first | refine hAl ?_ ?_ | refine hPu ?_ ?_); focus first | omega | (simp only [World.size_alloc, World.putObj_size, ne_eq]; omega))); exact rfl; conv => enter [6, 3]; whnf)
          | (apply wr_cmp; (iterate 3 exact rfl); (first | exact cmpT (by dsimp only [cmpP]; first | done | omega) | exact cmpF (by dsimp only [cmpN]; first | done | omega) | exact cmp_lt _ _ | exact cmp_le _ _ | exact cmp_gt _ _ | exact cmp_ge _ _ | exact cmp_eq _ _ | exact cmp_ne _ _))
          | (apply wr_pick (t := true); (iterate 2 exact rfl); with_reducible (conv => enter [6, 3]; whnf))
          | (apply wr_pick (t := false); (iterate 2 exact rfl); with_reducible (conv => enter [6, 3]; whnf))
          | ((first | apply wr_add | apply wr_sub | apply wr_mul); (iterate 3 exact rfl); (first | exact w_fit (by dsimp only [kIn]; first | done | omega) | with_reducible assumption | rfl))
          | (apply wr_conv; (iterate 2 exact rfl); (first | exact w_fit (by dsimp only [kIn]; first | done | omega) | with_reducible assumption | rfl))
          | (apply wr_alloc; exact rfl)
          | (apply wr_extract; (iterate 3 exact rfl); with_reducible (conv => enter [6, 3]; whnf))
          | (apply wr_store; (iterate 3 exact rfl); (first | exact rfl | with_reducible assumption); (focus repeat first | with_reducible assumption | exact heap_alloc_same _ _ | exact World.putObj_heap_same (by first | omega | (simp only [World.size_alloc, World.putObj_size, ne_eq]; omega)) | ((first | refine hAl ?_ ?_ | refine hPu ?_ ?_); focus first | omega | (simp only [World.size_alloc, World.putObj_size, ne_eq]; omega))); exact rfl)
          | (apply wr_cat; (iterate 3 exact rfl); (first | omega | (simp only [List.length_append]; omega)))
          | (apply wr_streqc; (iterate 3 exact rfl); (first | exact decide_eq_true (by with_reducible assumption) | exact decide_eq_false (by with_reducible assumption) | exact decide_eq_true rfl | exact rfl))
          | (apply wr_strnec; (iterate 3 exact rfl); (first | exact decide_eq_true (by with_reducible assumption) | exact decide_eq_false (by with_reducible assumption) | exact decide_eq_true rfl | exact rfl); with_reducible (conv => enter [6, 3]; whnf))
          | (apply wr_bits; exact rfl; (focus (simp; done)); (iterate 2 exact rfl); assumption)
          | (apply wr_eqnil_t; iterate 2 exact rfl)
          | (apply wr_eqnil_f; iterate 2 exact rfl)
          | (apply wr_nenil_f; iterate 2 exact rfl)
          | (apply wr_nenil_t; iterate 2 exact rfl)
          | (apply wc_true; exact rfl)
          | (apply wc_false; exact rfl)
          | (apply wc_exit; try simp only [thenE, inBlockE, bodyQ, ↓reduceIte, Nat.reduceEqDiff])
          | ((first | apply wc_ret | apply wr_nil); try simp only [thenE, inBlockE, bodyQ])
          | (apply wr_skip; exact rfl)
        refine wr_loadAll (cs := [.int .i64 ((1 + un % 20 : Nat) : Int), .int .i64 kd, .int .u64 (xv' : Int), S xs']) rfl rfl rfl hf6 rfl ?_
        refine wr_buildSlice (vs := [.agg #[.int .i64 ((1 + un % 20 : Nat) : Int), .int .i64 kd, .int .u64 (xv' : Int), S xs']]) rfl rfl (by intro v hv; simp at hv; subst hv; rfl) rfl (by decide) (by decide) (by decide) ?_
        refine wr_call (vs := [.slice (some ⟨w6.heap.size, 0, none⟩) 1 1]) rfl (ref_ca [⟨((1 + un % 20 : Nat) : Int), kd, xv', xs'⟩] _ _ ⟨rfl, _, _, rfl, Nat.le_refl _, .inr ⟨_, 0, _, _, _, rfl, heap_alloc_same _ _, fun j hj => by rw [Nat.zero_add, List.getElem?_toArray]; rfl⟩⟩ (show 1 ≤ 1000000000000 by decide)) rfl ?_
        rintro v w7 ⟨ho7, hk7⟩
        obtain ⟨ar, cr, rfl, hcr, har⟩ := (SlR.of_own ho7).shape
        obtain ⟨br, orr, rfl, curr, er, frr, hbr, hrr⟩ := har (show 0 < 1 by decide)
        refine wr_indexAddr (i := 0) rfl rfl rfl (show 0 < 1 by decide) ?_
        refine wr_loadElem (G := WF.cs) (n := 1) (i := 0) (l := [⟨((1 + un % 20 : Nat) : Int), kd, xv', xs'⟩]) rfl rfl WF.cs_len rfl hbr hrr (by decide) rfl rfl ?_
        refine wr_call (vs := [.agg #[.int .i64 ((1 + un % 20 : Nat) : Int), .int .i64 kd, .int .u64 (xv' : Int), S xs']]) rfl (rput_ca ⟨((1 + un % 20 : Nat) : Int), kd, xv', xs'⟩ ⟨hnr, hkdr, hxv', by show xs'.length ≤ _; omega⟩ _) rfl ?_
        rintro v w8 ⟨rfl, hk8⟩
        have hpl := putF_len (x := ⟨((1 + un % 20 : Nat) : Int), kd, xv', xs'⟩) hxv' (by show xs'.length < _; omega) hkdr
        dsimp only at hpl
        obtain ⟨pb, hp⟩ := putV_get0 (putF ⟨((1 + un % 20 : Nat) : Int), kd, xv', xs'⟩)
        rw [hp]
        generalize (putF ⟨((1 + un % 20 : Nat) : Int), kd, xv', xs'⟩).getD [] = t at hpl ⊢
        clear hp
        have hk68 := hk6.trans (((Keeps.refl NoB w6).alloc _).trans (hk7.trans hk8))
        clear hk6 hk7 hk8
        have hal' : (acc ++ t).length ≤ (i + 1) * 2000100 := by rw [List.length_append, Nat.add_mul, Nat.one_mul]; omega
        have hal2 : acc.length + t.length ≤ 9223372036854775807 := by rw [List.length_append, Nat.add_mul, Nat.one_mul] at hal'; omega
        repeat first
          | ((first | apply wr_move | apply wr_assign); exact rfl; with_reducible (conv => enter [6, 3]; whnf))
          | (first | apply wr_end | apply wc_seq | apply wc_region | apply wc_skip | apply wc_block)
          | ((first | apply wr_fieldAddr | apply wr_not | apply wr_len_str | apply wr_len_slice | apply wr_box); iterate 2 exact rfl)
          | (apply wr_load; (iterate 3 exact rfl); (focus repeat first | with_reducible assumption | exact heap_alloc_same _ _ | exact World.putObj_heap_same (by first | omega | (simp only [World.size_alloc, World.putObj_size, ne_eq]; omega)) | ((first | refine hAl ?_ ?_ | refine hPu ?_ ?_); focus first | omega | (simp only [World.size_alloc, World.putObj_size, ne_eq]; omega))); exact rfl; conv => enter [6, 3]; whnf)
          | (apply wr_cmp; (iterate 3 exact rfl); (first | exact cmpT (by dsimp only [cmpP]; first | done | omega) | exact cmpF (by dsimp only [cmpN]; first | done | omega) | exact cmp_lt _ _ | exact cmp_le _ _ | exact cmp_gt _ _ | exact cmp_ge _ _ | exact cmp_eq _ _ | exact cmp_ne _ _))
          | (apply wr_pick (t := true); (iterate 2 exact rfl); with_reducible (conv => enter [6, 3]; whnf))
          | (apply wr_pick (t := false); (iterate 2 exact rfl); with_reducible (conv => enter [6, 3]; whnf))
          | ((first | apply wr_add | apply wr_sub | apply wr_mul); (iterate 3 exact rfl); (first | exact w_fit (by dsimp only [kIn]; first | done | omega) | with_reducible assumption | rfl))
          | (apply wr_conv; (iterate 2 exact rfl); (first | exact w_fit (by dsimp only [kIn]; first | done | omega) | with_reducible assumption | rfl))
          | (apply wr_alloc; exact rfl)
          | (apply wr_extract; (iterate 3 exact rfl); with_reducible (conv => enter [6, 3]; whnf))
          | (apply wr_store; (iterate 3 exact rfl); (first | exact rfl | with_reducible assumption); (focus repeat first | with_reducible assumption | exact heap_alloc_same _ _ | exact World.putObj_heap_same (by first | omega | (simp only [World.size_alloc, World.putObj_size, ne_eq]; omega)) | ((first | refine hAl ?_ ?_ | refine hPu ?_ ?_); focus first | omega | (simp only [World.size_alloc, World.putObj_size, ne_eq]; omega))); exact rfl)
          | (apply wr_cat; (iterate 3 exact rfl); (first | omega | (simp only [List.length_append]; omega)))
          | (apply wr_streqc; (iterate 3 exact rfl); (first | exact decide_eq_true (by with_reducible assumption) | exact decide_eq_false (by with_reducible assumption) | exact decide_eq_true rfl | exact rfl))
          | (apply wr_strnec; (iterate 3 exact rfl); (first | exact decide_eq_true (by with_reducible assumption) | exact decide_eq_false (by with_reducible assumption) | exact decide_eq_true rfl | exact rfl); with_reducible (conv => enter [6, 3]; whnf))
          | (apply wr_bits; exact rfl; (focus (simp; done)); (iterate 2 exact rfl); assumption)
          | (apply wr_eqnil_t; iterate 2 exact rfl)
          | (apply wr_eqnil_f; iterate 2 exact rfl)
          | (apply wr_nenil_f; iterate 2 exact rfl)
          | (apply wr_nenil_t; iterate 2 exact rfl)
          | (apply wc_true; exact rfl)
          | (apply wc_false; exact rfl)
          | (apply wc_exit; try simp only [thenE, inBlockE, bodyQ, ↓reduceIte, Nat.reduceEqDiff])
          | ((first | apply wc_ret | apply wr_nil); try simp only [thenE, inBlockE, bodyQ])
          | (apply wr_skip; exact rfl)
        exact ⟨(i + 1, acc ++ t), by dsimp only; omega, ⟨by trivial, hlt, hc8, hal', hk68⟩, rfl, rfl, rfl, rfl, rfl, rfl, rfl, by simp, trivial⟩
      · have hcc : ¬ i < l.length ∨ i < l.length ∧ ¬ i < 8 := by omega
        have hacc' : acc.length ≤ 20000000 := by
          have : i * 2000100 ≤ 8 * 2000100 := Nat.mul_le_mul_right _ hi8
          omega
        clear hc
        rcases hcc with hcc | hcc
        all_goals
          repeat first
            | ((first | apply wr_move | apply wr_assign); exact rfl; with_reducible (conv => enter [6, 3]; whnf))
            | (first | apply wr_end | apply wc_seq | apply wc_region | apply wc_skip | apply wc_block)
            | ((first | apply wr_fieldAddr | apply wr_not | apply wr_len_str | apply wr_len_slice | apply wr_box); iterate 2 exact rfl)
            | (apply wr_load; (iterate 3 exact rfl); (focus repeat first | with_reducible assumption | exact heap_alloc_same _ _ | exact World.putObj_heap_same (by first | omega | (simp only [World.size_alloc, World.putObj_size, ne_eq]; omega)) | ((first | refine hAl ?_ ?_ | refine hPu ?_ ?_); focus first | omega | (simp only [World.size_alloc, World.putObj_size, ne_eq]; omega))); exact rfl; conv => enter [6, 3]; whnf)
            | (apply wr_cmp; (iterate 3 exact rfl); (first | exact cmpT (by dsimp only [cmpP]; first | done | omega) | exact cmpF (by dsimp only [cmpN]; first | done | omega) | exact cmp_lt _ _ | exact cmp_le _ _ | exact cmp_gt _ _ | exact cmp_ge _ _ | exact cmp_eq _ _ | exact cmp_ne _ _))
            | (apply wr_pick (t := true); (iterate 2 exact rfl); with_reducible (conv => enter [6, 3]; whnf))
            | (apply wr_pick (t := false); (iterate 2 exact rfl); with_reducible (conv => enter [6, 3]; whnf))
            | ((first | apply wr_add | apply wr_sub | apply wr_mul); (iterate 3 exact rfl); (first | exact w_fit (by dsimp only [kIn]; first | done | omega) | with_reducible assumption | rfl))
            | (apply wr_conv; (iterate 2 exact rfl); (first | exact w_fit (by dsimp only [kIn]; first | done | omega) | with_reducible assumption | rfl))
            | (apply wr_alloc; exact rfl)
            | (apply wr_extract; (iterate 3 exact rfl); with_reducible (conv => enter [6, 3]; whnf))
            | (apply wr_store; (iterate 3 exact rfl); (first | exact rfl | with_reducible assumption); (focus repeat first | with_reducible assumption | exact heap_alloc_same _ _ | exact World.putObj_heap_same (by first | omega | (simp only [World.size_alloc, World.putObj_size, ne_eq]; omega)) | ((first | refine hAl ?_ ?_ | refine hPu ?_ ?_); focus first | omega | (simp only [World.size_alloc, World.putObj_size, ne_eq]; omega))); exact rfl)
            | (apply wr_cat; (iterate 3 exact rfl); (first | omega | (simp only [List.length_append]; omega)))
            | (apply wr_streqc; (iterate 3 exact rfl); (first | exact decide_eq_true (by with_reducible assumption) | exact decide_eq_false (by with_reducible assumption) | exact decide_eq_true rfl | exact rfl))
            | (apply wr_strnec; (iterate 3 exact rfl); (first | exact decide_eq_true (by with_reducible assumption) | exact decide_eq_false (by with_reducible assumption) | exact decide_eq_true rfl | exact rfl); with_reducible (conv => enter [6, 3]; whnf))
            | (apply wr_bits; exact rfl; (focus (simp; done)); (iterate 2 exact rfl); assumption)
            | (apply wr_eqnil_t; iterate 2 exact rfl)
            | (apply wr_eqnil_f; iterate 2 exact rfl)
            | (apply wr_nenil_f; iterate 2 exact rfl)
            | (apply wr_nenil_t; iterate 2 exact rfl)
            | (apply wc_true; exact rfl)
            | (apply wc_false; exact rfl)
            | (apply wc_exit; try simp only [thenE, inBlockE, bodyQ, ↓reduceIte, Nat.reduceEqDiff])
            | ((first | apply wc_ret | apply wr_nil); try simp only [thenE, inBlockE, bodyQ])
            | (apply wr_skip; exact rfl)
          refine wr_call (vs := [S acc, .int .i64 at', .int .u8 (by'.toNat : Int)]) rfl (bend_ca acc at' by' (by omega) hat' _) rfl ?_
          rintro v w3 ⟨⟨s', rfl, hs'⟩, hk3⟩
          repeat first
            | ((first | apply wr_move | apply wr_assign); exact rfl; with_reducible (conv => enter [6, 3]; whnf))
            | (first | apply wr_end | apply wc_seq | apply wc_region | apply wc_skip | apply wc_block)
            | ((first | apply wr_fieldAddr | apply wr_not | apply wr_len_str | apply wr_len_slice | apply wr_box); iterate 2 exact rfl)
            | (apply wr_load; (iterate 3 exact rfl); (focus repeat first | with_reducible assumption | exact heap_alloc_same _ _ | exact World.putObj_heap_same (by first | omega | (simp only [World.size_alloc, World.putObj_size, ne_eq]; omega)) | ((first | refine hAl ?_ ?_ | refine hPu ?_ ?_); focus first | omega | (simp only [World.size_alloc, World.putObj_size, ne_eq]; omega))); exact rfl; conv => enter [6, 3]; whnf)
            | (apply wr_cmp; (iterate 3 exact rfl); (first | exact cmpT (by dsimp only [cmpP]; first | done | omega) | exact cmpF (by dsimp only [cmpN]; first | done | omega) | exact cmp_lt _ _ | exact cmp_le _ _ | exact cmp_gt _ _ | exact cmp_ge _ _ | exact cmp_eq _ _ | exact cmp_ne _ _))
            | (apply wr_pick (t := true); (iterate 2 exact rfl); with_reducible (conv => enter [6, 3]; whnf))
            | (apply wr_pick (t := false); (iterate 2 exact rfl); with_reducible (conv => enter [6, 3]; whnf))
            | ((first | apply wr_add | apply wr_sub | apply wr_mul); (iterate 3 exact rfl); (first | exact w_fit (by dsimp only [kIn]; first | done | omega) | with_reducible assumption | rfl))
            | (apply wr_conv; (iterate 2 exact rfl); (first | exact w_fit (by dsimp only [kIn]; first | done | omega) | with_reducible assumption | rfl))
            | (apply wr_alloc; exact rfl)
            | (apply wr_extract; (iterate 3 exact rfl); with_reducible (conv => enter [6, 3]; whnf))
            | (apply wr_store; (iterate 3 exact rfl); (first | exact rfl | with_reducible assumption); (focus repeat first | with_reducible assumption | exact heap_alloc_same _ _ | exact World.putObj_heap_same (by first | omega | (simp only [World.size_alloc, World.putObj_size, ne_eq]; omega)) | ((first | refine hAl ?_ ?_ | refine hPu ?_ ?_); focus first | omega | (simp only [World.size_alloc, World.putObj_size, ne_eq]; omega))); exact rfl)
            | (apply wr_cat; (iterate 3 exact rfl); (first | omega | (simp only [List.length_append]; omega)))
            | (apply wr_streqc; (iterate 3 exact rfl); (first | exact decide_eq_true (by with_reducible assumption) | exact decide_eq_false (by with_reducible assumption) | exact decide_eq_true rfl | exact rfl))
            | (apply wr_strnec; (iterate 3 exact rfl); (first | exact decide_eq_true (by with_reducible assumption) | exact decide_eq_false (by with_reducible assumption) | exact decide_eq_true rfl | exact rfl); with_reducible (conv => enter [6, 3]; whnf))
            | (apply wr_bits; exact rfl; (focus (simp; done)); (iterate 2 exact rfl); assumption)
            | (apply wr_eqnil_t; iterate 2 exact rfl)
            | (apply wr_eqnil_f; iterate 2 exact rfl)
            | (apply wr_nenil_f; iterate 2 exact rfl)
            | (apply wr_nenil_t; iterate 2 exact rfl)
            | (apply wc_true; exact rfl)
            | (apply wc_false; exact rfl)
            | (apply wc_exit; try simp only [thenE, inBlockE, bodyQ, ↓reduceIte, Nat.reduceEqDiff])
            | ((first | apply wc_ret | apply wr_nil); try simp only [thenE, inBlockE, bodyQ])
            | (apply wr_skip; exact rfl)
          exact ⟨by trivial, s', by omega, ⟨rfl, rfl, rfl, rfl, trivial⟩, hk2.trans hk3⟩
  · rintro ds f w2 ⟨rfl, s', hs', hslots, hk2⟩
    refine wc_keep _ hslots ?_
    intro f0
    clear hslots hk1 hk0 f hs hal hsl s
    have hg2 := hg.keep hk2 (fun i hi h => h)
    repeat first
      | ((first | apply wr_move | apply wr_assign); exact rfl; with_reducible (conv => enter [6, 3]; whnf))
      | (first | apply wr_end | apply wc_seq | apply wc_region | apply wc_skip | apply wc_block)
      | ((first | apply wr_fieldAddr | apply wr_not | apply wr_len_str | apply wr_len_slice | apply wr_box); iterate 2 exact rfl)
      | (apply wr_load; (iterate 3 exact rfl); (focus repeat first | with_reducible assumption | exact heap_alloc_same _ _ | exact World.putObj_heap_same (by first | omega | (simp only [World.size_alloc, World.putObj_size, ne_eq]; omega)) | ((first | refine hAl ?_ ?_ | refine hPu ?_ ?_); focus first | omega | (simp only [World.size_alloc, World.putObj_size, ne_eq]; omega))); exact rfl; conv => enter [6, 3]; whnf)
      | (apply wr_cmp; (iterate 3 exact rfl); (first | exact cmpT (by dsimp only [cmpP]; first | done | omega) | exact cmpF (by dsimp only [cmpN]; first | done | omega) | exact cmp_lt _ _ | exact cmp_le _ _ | exact cmp_gt _ _ | exact cmp_ge _ _ | exact cmp_eq _ _ | exact cmp_ne _ _))
      | (apply wr_pick (t := true); (iterate 2 exact rfl); with_reducible (conv => enter [6, 3]; whnf))
      | (apply wr_pick (t := false); (iterate 2 exact rfl); with_reducible (conv => enter [6, 3]; whnf))
      | ((first | apply wr_add | apply wr_sub | apply wr_mul); (iterate 3 exact rfl); (first | exact w_fit (by dsimp only [kIn]; first | done | omega) | with_reducible assumption | rfl))
      | (apply wr_conv; (iterate 2 exact rfl); (first | exact w_fit (by dsimp only [kIn]; first | done | omega) | with_reducible assumption | rfl))
      | (apply wr_alloc; exact rfl)
      | (apply wr_extract; (iterate 3 exact rfl); with_reducible (conv => enter [6, 3]; whnf))
      | (apply wr_store; (iterate 3 exact rfl); (first | exact rfl | with_reducible assumption); (focus repeat first | with_reducible assumption | exact heap_alloc_same _ _ | exact World.putObj_heap_same (by first | omega | (simp only [World.size_alloc, World.putObj_size, ne_eq]; omega)) | ((first | refine hAl ?_ ?_ | refine hPu ?_ ?_); focus first | omega | (simp only [World.size_alloc, World.putObj_size, ne_eq]; omega))); exact rfl)
      | (apply wr_cat; (iterate 3 exact rfl); (first | omega | (simp only [List.length_append]; omega)))
      | (apply wr_streqc; (iterate 3 exact rfl); (first | exact decide_eq_true (by with_reducible assumption) | exact decide_eq_false (by with_reducible assumption) | exact decide_eq_true rfl | exact rfl))
      | (apply wr_strnec; (iterate 3 exact rfl); (first | exact decide_eq_true (by with_reducible assumption) | exact decide_eq_false (by with_reducible assumption) | exact decide_eq_true rfl | exact rfl); with_reducible (conv => enter [6, 3]; whnf))
      | (apply wr_bits; exact rfl; (focus (simp; done)); (iterate 2 exact rfl); assumption)
      | (apply wr_eqnil_t; iterate 2 exact rfl)
      | (apply wr_eqnil_f; iterate 2 exact rfl)
      | (apply wr_nenil_f; iterate 2 exact rfl)
      | (apply wr_nenil_t; iterate 2 exact rfl)
      | (apply wc_true; exact rfl)
      | (apply wc_false; exact rfl)
      | (apply wc_exit; try simp only [thenE, inBlockE, bodyQ, ↓reduceIte, Nat.reduceEqDiff])
      | ((first | apply wc_ret | apply wr_nil); try simp only [thenE, inBlockE, bodyQ])
      | (apply wr_skip; exact rfl)
    refine wr_call (vs := [S s']) rfl (parse_ca s' (by omega) hg2) rfl ?_
    rintro v w3 ⟨hv, hk3⟩
    obtain ⟨sa, rfl, hsa3⟩ := parse_get hv
    clear hv
    have hLl : ((parseF s').getD []).length ≤ 1000000000 := by
      cases hp : parseF s' with
      | none => simp
      | some L => have := parseF_len s'.length s' L (Nat.le_refl _) hp; simp only [Option.getD_some]; omega
    repeat first
      | ((first | apply wr_move | apply wr_assign); exact rfl; with_reducible (conv => enter [6, 3]; whnf))
      | (first | apply wr_end | apply wc_seq | apply wc_region | apply wc_skip | apply wc_block)
      | ((first | apply wr_fieldAddr | apply wr_not | apply wr_len_str | apply wr_len_slice | apply wr_box); iterate 2 exact rfl)
      | (apply wr_load; (iterate 3 exact rfl); (focus repeat first | with_reducible assumption | exact heap_alloc_same _ _ | exact World.putObj_heap_same (by first | omega | (simp only [World.size_alloc, World.putObj_size, ne_eq]; omega)) | ((first | refine hAl ?_ ?_ | refine hPu ?_ ?_); focus first | omega | (simp only [World.size_alloc, World.putObj_size, ne_eq]; omega))); exact rfl; conv => enter [6, 3]; whnf)
      | (apply wr_cmp; (iterate 3 exact rfl); (first | exact cmpT (by dsimp only [cmpP]; first | done | omega) | exact cmpF (by dsimp only [cmpN]; first | done | omega) | exact cmp_lt _ _ | exact cmp_le _ _ | exact cmp_gt _ _ | exact cmp_ge _ _ | exact cmp_eq _ _ | exact cmp_ne _ _))
      | (apply wr_pick (t := true); (iterate 2 exact rfl); with_reducible (conv => enter [6, 3]; whnf))
      | (apply wr_pick (t := false); (iterate 2 exact rfl); with_reducible (conv => enter [6, 3]; whnf))
      | ((first | apply wr_add | apply wr_sub | apply wr_mul); (iterate 3 exact rfl); (first | exact w_fit (by dsimp only [kIn]; first | done | omega) | with_reducible assumption | rfl))
      | (apply wr_conv; (iterate 2 exact rfl); (first | exact w_fit (by dsimp only [kIn]; first | done | omega) | with_reducible assumption | rfl))
      | (apply wr_alloc; exact rfl)
      | (apply wr_extract; (iterate 3 exact rfl); with_reducible (conv => enter [6, 3]; whnf))
      | (apply wr_store; (iterate 3 exact rfl); (first | exact rfl | with_reducible assumption); (focus repeat first | with_reducible assumption | exact heap_alloc_same _ _ | exact World.putObj_heap_same (by first | omega | (simp only [World.size_alloc, World.putObj_size, ne_eq]; omega)) | ((first | refine hAl ?_ ?_ | refine hPu ?_ ?_); focus first | omega | (simp only [World.size_alloc, World.putObj_size, ne_eq]; omega))); exact rfl)
      | (apply wr_cat; (iterate 3 exact rfl); (first | omega | (simp only [List.length_append]; omega)))
      | (apply wr_streqc; (iterate 3 exact rfl); (first | exact decide_eq_true (by with_reducible assumption) | exact decide_eq_false (by with_reducible assumption) | exact decide_eq_true rfl | exact rfl))
      | (apply wr_strnec; (iterate 3 exact rfl); (first | exact decide_eq_true (by with_reducible assumption) | exact decide_eq_false (by with_reducible assumption) | exact decide_eq_true rfl | exact rfl); with_reducible (conv => enter [6, 3]; whnf))
      | (apply wr_bits; exact rfl; (focus (simp; done)); (iterate 2 exact rfl); assumption)
      | (apply wr_eqnil_t; iterate 2 exact rfl)
      | (apply wr_eqnil_f; iterate 2 exact rfl)
      | (apply wr_nenil_f; iterate 2 exact rfl)
      | (apply wr_nenil_t; iterate 2 exact rfl)
      | (apply wc_true; exact rfl)
      | (apply wc_false; exact rfl)
      | (apply wc_exit; try simp only [thenE, inBlockE, bodyQ, ↓reduceIte, Nat.reduceEqDiff])
      | ((first | apply wc_ret | apply wr_nil); try simp only [thenE, inBlockE, bodyQ])
      | (apply wr_skip; exact rfl)
    refine wr_call (vs := [S s']) rfl (rparse_ca s' (by omega) _) rfl ?_
    rintro v w4 ⟨hv, hk4⟩
    obtain ⟨sb, rfl, hsb4⟩ := rparse_get hv
    clear hv
    generalize (parseF s').isSome = ok at hsa3 hsb4 ⊢
    generalize (parseF s').getD [] = L at hsa3 hsb4 hLl ⊢
    have hsa4 := hsa3.keep hk4 (fun _ _ h => h)
    repeat first
      | ((first | apply wr_move | apply wr_assign); exact rfl; with_reducible (conv => enter [6, 3]; whnf))
      | (first | apply wr_end | apply wc_seq | apply wc_region | apply wc_skip | apply wc_block)
      | ((first | apply wr_fieldAddr | apply wr_not | apply wr_len_str | apply wr_len_slice | apply wr_box); iterate 2 exact rfl)
      | (apply wr_load; (iterate 3 exact rfl); (focus repeat first | with_reducible assumption | exact heap_alloc_same _ _ | exact World.putObj_heap_same (by first | omega | (simp only [World.size_alloc, World.putObj_size, ne_eq]; omega)) | ((first | refine hAl ?_ ?_ | refine hPu ?_ ?_); focus first | omega | (simp only [World.size_alloc, World.putObj_size, ne_eq]; omega))); exact rfl; conv => enter [6, 3]; whnf)
      | (apply wr_cmp; (iterate 3 exact rfl); (first | exact cmpT (by dsimp only [cmpP]; first | done | omega) | exact cmpF (by dsimp only [cmpN]; first | done | omega) | exact cmp_lt _ _ | exact cmp_le _ _ | exact cmp_gt _ _ | exact cmp_ge _ _ | exact cmp_eq _ _ | exact cmp_ne _ _))
      | (apply wr_pick (t := true); (iterate 2 exact rfl); with_reducible (conv => enter [6, 3]; whnf))
      | (apply wr_pick (t := false); (iterate 2 exact rfl); with_reducible (conv => enter [6, 3]; whnf))
      | ((first | apply wr_add | apply wr_sub | apply wr_mul); (iterate 3 exact rfl); (first | exact w_fit (by dsimp only [kIn]; first | done | omega) | with_reducible assumption | rfl))
      | (apply wr_conv; (iterate 2 exact rfl); (first | exact w_fit (by dsimp only [kIn]; first | done | omega) | with_reducible assumption | rfl))
      | (apply wr_alloc; exact rfl)
      | (apply wr_extract; (iterate 3 exact rfl); with_reducible (conv => enter [6, 3]; whnf))
      | (apply wr_store; (iterate 3 exact rfl); (first | exact rfl | with_reducible assumption); (focus repeat first | with_reducible assumption | exact heap_alloc_same _ _ | exact World.putObj_heap_same (by first | omega | (simp only [World.size_alloc, World.putObj_size, ne_eq]; omega)) | ((first | refine hAl ?_ ?_ | refine hPu ?_ ?_); focus first | omega | (simp only [World.size_alloc, World.putObj_size, ne_eq]; omega))); exact rfl)
      | (apply wr_cat; (iterate 3 exact rfl); (first | omega | (simp only [List.length_append]; omega)))
      | (apply wr_streqc; (iterate 3 exact rfl); (first | exact decide_eq_true (by with_reducible assumption) | exact decide_eq_false (by with_reducible assumption) | exact decide_eq_true rfl | exact rfl))
      | (apply wr_strnec; (iterate 3 exact rfl); (first | exact decide_eq_true (by with_reducible assumption) | exact decide_eq_false (by with_reducible assumption) | exact decide_eq_true rfl | exact rfl); with_reducible (conv => enter [6, 3]; whnf))
      | (apply wr_bits; exact rfl; (focus (simp; done)); (iterate 2 exact rfl); assumption)
      | (apply wr_eqnil_t; iterate 2 exact rfl)
      | (apply wr_eqnil_f; iterate 2 exact rfl)
      | (apply wr_nenil_f; iterate 2 exact rfl)
      | (apply wr_nenil_t; iterate 2 exact rfl)
      | (apply wc_true; exact rfl)
      | (apply wc_false; exact rfl)
      | (apply wc_exit; try simp only [thenE, inBlockE, bodyQ, ↓reduceIte, Nat.reduceEqDiff])
      | ((first | apply wc_ret | apply wr_nil); try simp only [thenE, inBlockE, bodyQ])
      | (apply wr_skip; exact rfl)
    refine wr_call (vs := [sa]) rfl (ref_ca L sa _ hsa4 (by omega)) rfl ?_
    rintro v w5 ⟨ho5, hk5⟩
    have hsb5 := hsb4.keep hk5 (fun _ _ h => h)
    have hsa5 := hsa4.keep hk5 (fun _ _ h => h)
    repeat first
      | ((first | apply wr_move | apply wr_assign); exact rfl; with_reducible (conv => enter [6, 3]; whnf))
      | (first | apply wr_end | apply wc_seq | apply wc_region | apply wc_skip | apply wc_block)
      | ((first | apply wr_fieldAddr | apply wr_not | apply wr_len_str | apply wr_len_slice | apply wr_box); iterate 2 exact rfl)
      | (apply wr_load; (iterate 3 exact rfl); (focus repeat first | with_reducible assumption | exact heap_alloc_same _ _ | exact World.putObj_heap_same (by first | omega | (simp only [World.size_alloc, World.putObj_size, ne_eq]; omega)) | ((first | refine hAl ?_ ?_ | refine hPu ?_ ?_); focus first | omega | (simp only [World.size_alloc, World.putObj_size, ne_eq]; omega))); exact rfl; conv => enter [6, 3]; whnf)
      | (apply wr_cmp; (iterate 3 exact rfl); (first | exact cmpT (by dsimp only [cmpP]; first | done | omega) | exact cmpF (by dsimp only [cmpN]; first | done | omega) | exact cmp_lt _ _ | exact cmp_le _ _ | exact cmp_gt _ _ | exact cmp_ge _ _ | exact cmp_eq _ _ | exact cmp_ne _ _))
      | (apply wr_pick (t := true); (iterate 2 exact rfl); with_reducible (conv => enter [6, 3]; whnf))
      | (apply wr_pick (t := false); (iterate 2 exact rfl); with_reducible (conv => enter [6, 3]; whnf))
      | ((first | apply wr_add | apply wr_sub | apply wr_mul); (iterate 3 exact rfl); (first | exact w_fit (by dsimp only [kIn]; first | done | omega) | with_reducible assumption | rfl))
      | (apply wr_conv; (iterate 2 exact rfl); (first | exact w_fit (by dsimp only [kIn]; first | done | omega) | with_reducible assumption | rfl))
      | (apply wr_alloc; exact rfl)
      | (apply wr_extract; (iterate 3 exact rfl); with_reducible (conv => enter [6, 3]; whnf))
      | (apply wr_store; (iterate 3 exact rfl); (first | exact rfl | with_reducible assumption); (focus repeat first | with_reducible assumption | exact heap_alloc_same _ _ | exact World.putObj_heap_same (by first | omega | (simp only [World.size_alloc, World.putObj_size, ne_eq]; omega)) | ((first | refine hAl ?_ ?_ | refine hPu ?_ ?_); focus first | omega | (simp only [World.size_alloc, World.putObj_size, ne_eq]; omega))); exact rfl)
      | (apply wr_cat; (iterate 3 exact rfl); (first | omega | (simp only [List.length_append]; omega)))
      | (apply wr_streqc; (iterate 3 exact rfl); (first | exact decide_eq_true (by with_reducible assumption) | exact decide_eq_false (by with_reducible assumption) | exact decide_eq_true rfl | exact rfl))
      | (apply wr_strnec; (iterate 3 exact rfl); (first | exact decide_eq_true (by with_reducible assumption) | exact decide_eq_false (by with_reducible assumption) | exact decide_eq_true rfl | exact rfl); with_reducible (conv => enter [6, 3]; whnf))
      | (apply wr_bits; exact rfl; (focus (simp; done)); (iterate 2 exact rfl); assumption)
      | (apply wr_eqnil_t; iterate 2 exact rfl)
      | (apply wr_eqnil_f; iterate 2 exact rfl)
      | (apply wr_nenil_f; iterate 2 exact rfl)
      | (apply wr_nenil_t; iterate 2 exact rfl)
      | (apply wc_true; exact rfl)
      | (apply wc_false; exact rfl)
      | (apply wc_exit; try simp only [thenE, inBlockE, bodyQ, ↓reduceIte, Nat.reduceEqDiff])
      | ((first | apply wc_ret | apply wr_nil); try simp only [thenE, inBlockE, bodyQ])
      | (apply wr_skip; exact rfl)
    refine wr_call (vs := [v, sb]) rfl (same_ca L v sb _ (SlR.of_own ho5) hsb5 (by omega)) rfl ?_
    rintro v' w6 ⟨rfl, hk6⟩
    have hsb6 := hsb5.keep hk6 (fun _ _ h => h)
    have hsa6 := hsa5.keep hk6 (fun _ _ h => h)
    have hk26 := hk2.trans (hk3.trans (hk4.trans (hk5.trans hk6)))
    clear hsa3 hsa4 hsa5 hsb4 hsb5 ho5 hk2 hk3 hk4 hk5 hk6 hg2
    apply wr_assign
    exact rfl
    apply wr_end
    apply wc_seq
    refine wc_cut (fun ds f w' => ds = [] ∧ ∃ num' : Int, Slots f [(5, .int .i64 num'), (13, .bool true), (18, sa), (19, .bool ok), (20, sb), (21, .bool ok), (22, .bool true)] ∧ w' = w6) ?_ ?_
    · cases own
      · (repeat first
  | ((first | apply wr_move | apply wr_assign); exact rfl; with_reducible (conv => enter [6, 3]; whnf))
  | (first | apply wr_end | apply wc_seq | apply wc_region | apply wc_skip | apply wc_block)
  | ((first | apply wr_fieldAddr | apply wr_not | apply wr_len_str | apply wr_len_slice | apply wr_box); iterate 2 exact rfl)
  | (apply wr_load; (iterate 3 exact rfl); (focus repeat first | with_reducible assumption | exact heap_alloc_same _ _ | exact World.putObj_heap_same (by first | omega | (simp only [World.size_alloc, World.putObj_size, ne_eq]; omega)) | ((first | refine hAl ?_ ?_ | refine hPu ?_ ?_); focus first | omega | (simp only [World.size_alloc, World.putObj_size, ne_eq]; omega))); exact rfl; conv => enter [6, 3]; whnf)
  | (apply wr_cmp; (iterate 3 exact rfl); (first | exact cmpT (by dsimp only [cmpP]; first | done | omega) | exact cmpF (by dsimp only [cmpN]; first | done | omega) | exact cmp_lt _ _ | exact cmp_le _ _ | exact cmp_gt _ _ | exact cmp_ge _ _ | exact cmp_eq _ _ | exact cmp_ne _ _))
  | (apply wr_pick (t := true); (iterate 2 exact rfl); with_reducible (conv => enter [6, 3]; whnf))
  | (apply wr_pick (t := false); (iterate 2 exact rfl); with_reducible (conv => enter [6, 3]; whnf))
  | ((first | apply wr_add | apply wr_sub | apply wr_mul); (iterate 3 exact rfl); (first | exact w_fit (by dsimp only [kIn]; first | done | omega) | with_reducible assumption | rfl))
  | (apply wr_conv; (iterate 2 exact rfl); (first | exact w_fit (by dsimp only [kIn]; first | done | omega) | with_reducible assumption | rfl))
  | (apply wr_alloc; exact rfl)
  | (apply wr_extract; (iterate 3 exact rfl); with_reducible (conv => enter [6, 3]; whnf))
  | (apply wr_store; (iterate 3 exact rfl); (first | exact rfl | with_reducible assumption); (focus repeat first | with_reducible assumption | exact heap_alloc_same _ _ | exact World.putObj_heap_same (by first | omega | (simp only [World.size_alloc, World.putObj_size, ne_eq]; omega)) | ((first | refine hAl ?_ ?_ | refine hPu ?_ ?_); focus first | omega | (simp only [World.size_alloc, World.putObj_size, ne_eq]; omega))); exact rfl)
  | (apply wr_cat; (iterate 3 exact rfl); (first | omega | (simp only [List.length_append]; omega)))
  | (apply wr_streqc; (iterate 3 exact rfl); (first | exact decide_eq_true (by with_reducible assumption) | exact decide_eq_false (by with_reducible assumption) | exact decide_eq_true rfl | exact rfl))
  | (apply wr_strnec; (iterate 3 exact rfl); (first | exact decide_eq_true (by with_reducible assumption) | exact decide_eq_false (by with_reducible assumption) | exact decide_eq_true rfl | exact rfl); with_reducible (conv => enter [6, 3]; whnf))
  | (apply wr_bits; exact rfl; (focus (simp; done)); (iterate 2 exact rfl); assumption)
  | (apply wr_eqnil_t; iterate 2 exact rfl)
  | (apply wr_eqnil_f; iterate 2 exact rfl)
  | (apply wr_nenil_f; iterate 2 exact rfl)
  | (apply wr_nenil_t; iterate 2 exact rfl)
  | (apply wc_true; exact rfl)
  | (apply wc_false; exact rfl)
  | (apply wc_exit; try simp only [thenE, inBlockE, bodyQ, ↓reduceIte, Nat.reduceEqDiff])
  | ((first | apply wc_ret | apply wr_nil); try simp only [thenE, inBlockE, bodyQ])
  | (apply wr_skip; exact rfl))
        exact ⟨by trivial, num, ⟨rfl, rfl, rfl, rfl, rfl, rfl, rfl, trivial⟩, rfl⟩
      · obtain ⟨un, hun, hun'⟩ := wrap_nat num
        have hn1 : (1 : Int) + ((un % 20 : Nat) : Int) = ((1 + un % 20 : Nat) : Int) := by omega
        have hm20 : un % 20 < 20 := Nat.mod_lt _ (by decide)
        apply wc_seq
        apply wc_region
        apply wr_move
        exact rfl
        apply wr_end
        apply wc_true
        exact rfl
        apply wc_region
        apply wr_move
        exact rfl
        refine wr_conv rfl rfl hun ?_
        refine wr_remN (n := un) (m := 20) rfl rfl rfl (by decide) ?_
        repeat first
          | ((first | apply wr_move | apply wr_assign); exact rfl; with_reducible (conv => enter [6, 3]; whnf))
          | (first | apply wr_end | apply wc_seq | apply wc_region | apply wc_skip | apply wc_block)
          | ((first | apply wr_fieldAddr | apply wr_not | apply wr_len_str | apply wr_len_slice | apply wr_box); iterate 2 exact rfl)
          | (apply wr_load; (iterate 3 exact rfl); (focus repeat first | with_reducible assumption | exact heap_alloc_same _ _ | exact World.putObj_heap_same (by first | omega | (simp only [World.size_alloc, World.putObj_size, ne_eq]; omega)) | ((first | refine hAl ?_ ?_ | refine hPu ?_ ?_); focus first | omega | (simp only [World.size_alloc, World.putObj_size, ne_eq]; omega))); exact rfl; conv => enter [6, 3]; whnf)
          | (apply wr_cmp; (iterate 3 exact rfl); (first | exact cmpT (by dsimp only [cmpP]; first | done | omega) | exact cmpF (by dsimp only [cmpN]; first | done | omega) | exact cmp_lt _ _ | exact cmp_le _ _ | exact cmp_gt _ _ | exact cmp_ge _ _ | exact cmp_eq _ _ | exact cmp_ne _ _))
          | (apply wr_pick (t := true); (iterate 2 exact rfl); with_reducible (conv => enter [6, 3]; whnf))
          | (apply wr_pick (t := false); (iterate 2 exact rfl); with_reducible (conv => enter [6, 3]; whnf))
          | ((first | apply wr_add | apply wr_sub | apply wr_mul); (iterate 3 exact rfl); (first | exact w_fit (by dsimp only [kIn]; first | done | omega) | with_reducible assumption | rfl))
          | (apply wr_conv; (iterate 2 exact rfl); (first | exact w_fit (by dsimp only [kIn]; first | done | omega) | with_reducible assumption | rfl))
          | (apply wr_alloc; exact rfl)
          | (apply wr_extract; (iterate 3 exact rfl); with_reducible (conv => enter [6, 3]; whnf))
          | (apply wr_store; (iterate 3 exact rfl); (first | exact rfl | with_reducible assumption); (focus repeat first | with_reducible assumption | exact heap_alloc_same _ _ | exact World.putObj_heap_same (by first | omega | (simp only [World.size_alloc, World.putObj_size, ne_eq]; omega)) | ((first | refine hAl ?_ ?_ | refine hPu ?_ ?_); focus first | omega | (simp only [World.size_alloc, World.putObj_size, ne_eq]; omega))); exact rfl)
          | (apply wr_cat; (iterate 3 exact rfl); (first | omega | (simp only [List.length_append]; omega)))
          | (apply wr_streqc; (iterate 3 exact rfl); (first | exact decide_eq_true (by with_reducible assumption) | exact decide_eq_false (by with_reducible assumption) | exact decide_eq_true rfl | exact rfl))
          | (apply wr_strnec; (iterate 3 exact rfl); (first | exact decide_eq_true (by with_reducible assumption) | exact decide_eq_false (by with_reducible assumption) | exact decide_eq_true rfl | exact rfl); with_reducible (conv => enter [6, 3]; whnf))
          | (apply wr_bits; exact rfl; (focus (simp; done)); (iterate 2 exact rfl); assumption)
          | (apply wr_eqnil_t; iterate 2 exact rfl)
          | (apply wr_eqnil_f; iterate 2 exact rfl)
          | (apply wr_nenil_f; iterate 2 exact rfl)
          | (apply wr_nenil_t; iterate 2 exact rfl)
          | (apply wc_true; exact rfl)
          | (apply wc_false; exact rfl)
          | (apply wc_exit; try simp only [thenE, inBlockE, bodyQ, ↓reduceIte, Nat.reduceEqDiff])
          | ((first | apply wc_ret | apply wr_nil); try simp only [thenE, inBlockE, bodyQ])
          | (apply wr_skip; exact rfl)
        exact ⟨by trivial, _, ⟨rfl, rfl, rfl, rfl, rfl, rfl, rfl, trivial⟩, rfl⟩
    rintro ds f w6' ⟨rfl, num', hslots, rfl⟩
    refine wc_keep _ hslots ?_
    intro f1
    clear hslots f
    obtain ⟨x, is, hx⟩ := lastV_get (lastF L num')
    obtain ⟨x1, x2, x3, x4⟩ := x
    dsimp only [WF.v] at hx
    repeat first
      | ((first | apply wr_move | apply wr_assign); exact rfl; with_reducible (conv => enter [6, 3]; whnf))
      | (first | apply wr_end | apply wc_seq | apply wc_region | apply wc_skip | apply wc_block)
      | ((first | apply wr_fieldAddr | apply wr_not | apply wr_len_str | apply wr_len_slice | apply wr_box); iterate 2 exact rfl)
      | (apply wr_load; (iterate 3 exact rfl); (focus repeat first | with_reducible assumption | exact heap_alloc_same _ _ | exact World.putObj_heap_same (by first | omega | (simp only [World.size_alloc, World.putObj_size, ne_eq]; omega)) | ((first | refine hAl ?_ ?_ | refine hPu ?_ ?_); focus first | omega | (simp only [World.size_alloc, World.putObj_size, ne_eq]; omega))); exact rfl; conv => enter [6, 3]; whnf)
      | (apply wr_cmp; (iterate 3 exact rfl); (first | exact cmpT (by dsimp only [cmpP]; first | done | omega) | exact cmpF (by dsimp only [cmpN]; first | done | omega) | exact cmp_lt _ _ | exact cmp_le _ _ | exact cmp_gt _ _ | exact cmp_ge _ _ | exact cmp_eq _ _ | exact cmp_ne _ _))
      | (apply wr_pick (t := true); (iterate 2 exact rfl); with_reducible (conv => enter [6, 3]; whnf))
      | (apply wr_pick (t := false); (iterate 2 exact rfl); with_reducible (conv => enter [6, 3]; whnf))
      | ((first | apply wr_add | apply wr_sub | apply wr_mul); (iterate 3 exact rfl); (first | exact w_fit (by dsimp only [kIn]; first | done | omega) | with_reducible assumption | rfl))
      | (apply wr_conv; (iterate 2 exact rfl); (first | exact w_fit (by dsimp only [kIn]; first | done | omega) | with_reducible assumption | rfl))
      | (apply wr_alloc; exact rfl)
      | (apply wr_extract; (iterate 3 exact rfl); with_reducible (conv => enter [6, 3]; whnf))
      | (apply wr_store; (iterate 3 exact rfl); (first | exact rfl | with_reducible assumption); (focus repeat first | with_reducible assumption | exact heap_alloc_same _ _ | exact World.putObj_heap_same (by first | omega | (simp only [World.size_alloc, World.putObj_size, ne_eq]; omega)) | ((first | refine hAl ?_ ?_ | refine hPu ?_ ?_); focus first | omega | (simp only [World.size_alloc, World.putObj_size, ne_eq]; omega))); exact rfl)
      | (apply wr_cat; (iterate 3 exact rfl); (first | omega | (simp only [List.length_append]; omega)))
      | (apply wr_streqc; (iterate 3 exact rfl); (first | exact decide_eq_true (by with_reducible assumption) | exact decide_eq_false (by with_reducible assumption) | exact decide_eq_true rfl | exact rfl))
      | (apply wr_strnec; (iterate 3 exact rfl); (first | exact decide_eq_true (by with_reducible assumption) | exact decide_eq_false (by with_reducible assumption) | exact decide_eq_true rfl | exact rfl); with_reducible (conv => enter [6, 3]; whnf))
      | (apply wr_bits; exact rfl; (focus (simp; done)); (iterate 2 exact rfl); assumption)
      | (apply wr_eqnil_t; iterate 2 exact rfl)
      | (apply wr_eqnil_f; iterate 2 exact rfl)
      | (apply wr_nenil_f; iterate 2 exact rfl)
      | (apply wr_nenil_t; iterate 2 exact rfl)
      | (apply wc_true; exact rfl)
      | (apply wc_false; exact rfl)
      | (apply wc_exit; try simp only [thenE, inBlockE, bodyQ, ↓reduceIte, Nat.reduceEqDiff])
      | ((first | apply wc_ret | apply wr_nil); try simp only [thenE, inBlockE, bodyQ])
      | (apply wr_skip; exact rfl)
    refine wr_call (vs := [sa, .int .i64 num']) rfl (last_ca L num' sa _ hsa6 (by omega)) rfl ?_
    rintro v w7 ⟨rfl, hk7⟩
    rw [hx]
    have hsa7 := hsa6.keep hk7 (fun _ _ h => h)
    have hsb7 := hsb6.keep hk7 (fun _ _ h => h)
    repeat first
      | ((first | apply wr_move | apply wr_assign); exact rfl; with_reducible (conv => enter [6, 3]; whnf))
      | (first | apply wr_end | apply wc_seq | apply wc_region | apply wc_skip | apply wc_block)
      | ((first | apply wr_fieldAddr | apply wr_not | apply wr_len_str | apply wr_len_slice | apply wr_box); iterate 2 exact rfl)
      | (apply wr_load; (iterate 3 exact rfl); (focus repeat first | with_reducible assumption | exact heap_alloc_same _ _ | exact World.putObj_heap_same (by first | omega | (simp only [World.size_alloc, World.putObj_size, ne_eq]; omega)) | ((first | refine hAl ?_ ?_ | refine hPu ?_ ?_); focus first | omega | (simp only [World.size_alloc, World.putObj_size, ne_eq]; omega))); exact rfl; conv => enter [6, 3]; whnf)
      | (apply wr_cmp; (iterate 3 exact rfl); (first | exact cmpT (by dsimp only [cmpP]; first | done | omega) | exact cmpF (by dsimp only [cmpN]; first | done | omega) | exact cmp_lt _ _ | exact cmp_le _ _ | exact cmp_gt _ _ | exact cmp_ge _ _ | exact cmp_eq _ _ | exact cmp_ne _ _))
      | (apply wr_pick (t := true); (iterate 2 exact rfl); with_reducible (conv => enter [6, 3]; whnf))
      | (apply wr_pick (t := false); (iterate 2 exact rfl); with_reducible (conv => enter [6, 3]; whnf))
      | ((first | apply wr_add | apply wr_sub | apply wr_mul); (iterate 3 exact rfl); (first | exact w_fit (by dsimp only [kIn]; first | done | omega) | with_reducible assumption | rfl))
      | (apply wr_conv; (iterate 2 exact rfl); (first | exact w_fit (by dsimp only [kIn]; first | done | omega) | with_reducible assumption | rfl))
      | (apply wr_alloc; exact rfl)
      | (apply wr_extract; (iterate 3 exact rfl); with_reducible (conv => enter [6, 3]; whnf))
      | (apply wr_store; (iterate 3 exact rfl); (first | exact rfl | with_reducible assumption); (focus repeat first | with_reducible assumption | exact heap_alloc_same _ _ | exact World.putObj_heap_same (by first | omega | (simp only [World.size_alloc, World.putObj_size, ne_eq]; omega)) | ((first | refine hAl ?_ ?_ | refine hPu ?_ ?_); focus first | omega | (simp only [World.size_alloc, World.putObj_size, ne_eq]; omega))); exact rfl)
      | (apply wr_cat; (iterate 3 exact rfl); (first | omega | (simp only [List.length_append]; omega)))
      | (apply wr_streqc; (iterate 3 exact rfl); (first | exact decide_eq_true (by with_reducible assumption) | exact decide_eq_false (by with_reducible assumption) | exact decide_eq_true rfl | exact rfl))
      | (apply wr_strnec; (iterate 3 exact rfl); (first | exact decide_eq_true (by with_reducible assumption) | exact decide_eq_false (by with_reducible assumption) | exact decide_eq_true rfl | exact rfl); with_reducible (conv => enter [6, 3]; whnf))
      | (apply wr_bits; exact rfl; (focus (simp; done)); (iterate 2 exact rfl); assumption)
      | (apply wr_eqnil_t; iterate 2 exact rfl)
      | (apply wr_eqnil_f; iterate 2 exact rfl)
      | (apply wr_nenil_f; iterate 2 exact rfl)
      | (apply wr_nenil_t; iterate 2 exact rfl)
      | (apply wc_true; exact rfl)
      | (apply wc_false; exact rfl)
      | (apply wc_exit; try simp only [thenE, inBlockE, bodyQ, ↓reduceIte, Nat.reduceEqDiff])
      | ((first | apply wc_ret | apply wr_nil); try simp only [thenE, inBlockE, bodyQ])
      | (apply wr_skip; exact rfl)
    refine wr_storeAll (cs := [.int .i64 x1, .int .i64 x2, .int .u64 (x3 : Int), S x4]) rfl rfl rfl (by intro u hu; simp at hu; rcases hu with rfl | rfl | rfl | rfl <;> rfl) (heap_alloc_same _ _) rfl rfl ?_
    obtain ⟨w8, hw8⟩ : ∃ w8, w8 = (w7.alloc (.cells (Value.agg #[.int .i64 0, .int .i64 0, .int .u64 0, S []]).cells 29)).putObj w7.heap.size (.cells #[.int .i64 x1, .int .i64 x2, .int .u64 (x3 : Int), S x4] 29 (0, 0)) := ⟨_, rfl⟩
    have hk8 : Keeps NoB w7 w8 := by rw [hw8]; exact ((Keeps.refl NoB w7).alloc _).put _ (fun h => by omega)
    have hf8 : w8.heap[w7.heap.size]? = some (.cells #[.int .i64 x1, .int .i64 x2, .int .u64 (x3 : Int), S x4] 29 (0, 0)) := by rw [hw8]; exact World.putObj_heap_same (by simp)
    rw [← hw8]
    clear hw8
    generalize w7.heap.size = fa at hf8 ⊢
    have hsa8 := hsa7.keep hk8 (fun _ _ h => h)
    have hsb8 := hsb7.keep hk8 (fun _ _ h => h)
    have hk28 := hk26.trans (hk7.trans hk8)
    clear hsa6 hsa7 hsb6 hsb7 hk26 hk7 hk8
    repeat first
      | ((first | apply wr_move | apply wr_assign); exact rfl; with_reducible (conv => enter [6, 3]; whnf))
      | (first | apply wr_end | apply wc_seq | apply wc_region | apply wc_skip | apply wc_block)
      | ((first | apply wr_fieldAddr | apply wr_not | apply wr_len_str | apply wr_len_slice | apply wr_box); iterate 2 exact rfl)
      | (apply wr_load; (iterate 3 exact rfl); (focus repeat first | with_reducible assumption | exact heap_alloc_same _ _ | exact World.putObj_heap_same (by first | omega | (simp only [World.size_alloc, World.putObj_size, ne_eq]; omega)) | ((first | refine hAl ?_ ?_ | refine hPu ?_ ?_); focus first | omega | (simp only [World.size_alloc, World.putObj_size, ne_eq]; omega))); exact rfl; conv => enter [6, 3]; whnf)
      | (apply wr_cmp; (iterate 3 exact rfl); (first | exact cmpT (by dsimp only [cmpP]; first | done | omega) | exact cmpF (by dsimp only [cmpN]; first | done | omega) | exact cmp_lt _ _ | exact cmp_le _ _ | exact cmp_gt _ _ | exact cmp_ge _ _ | exact cmp_eq _ _ | exact cmp_ne _ _))
      | (apply wr_pick (t := true); (iterate 2 exact rfl); with_reducible (conv => enter [6, 3]; whnf))
      | (apply wr_pick (t := false); (iterate 2 exact rfl); with_reducible (conv => enter [6, 3]; whnf))
      | ((first | apply wr_add | apply wr_sub | apply wr_mul); (iterate 3 exact rfl); (first | exact w_fit (by dsimp only [kIn]; first | done | omega) | with_reducible assumption | rfl))
      | (apply wr_conv; (iterate 2 exact rfl); (first | exact w_fit (by dsimp only [kIn]; first | done | omega) | with_reducible assumption | rfl))
      | (apply wr_alloc; exact rfl)
      | (apply wr_extract; (iterate 3 exact rfl); with_reducible (conv => enter [6, 3]; whnf))
      | (apply wr_store; (iterate 3 exact rfl); (first | exact rfl | with_reducible assumption); (focus repeat first | with_reducible assumption | exact heap_alloc_same _ _ | exact World.putObj_heap_same (by first | omega | (simp only [World.size_alloc, World.putObj_size, ne_eq]; omega)) | ((first | refine hAl ?_ ?_ | refine hPu ?_ ?_); focus first | omega | (simp only [World.size_alloc, World.putObj_size, ne_eq]; omega))); exact rfl)
      | (apply wr_cat; (iterate 3 exact rfl); (first | omega | (simp only [List.length_append]; omega)))
      | (apply wr_streqc; (iterate 3 exact rfl); (first | exact decide_eq_true (by with_reducible assumption) | exact decide_eq_false (by with_reducible assumption) | exact decide_eq_true rfl | exact rfl))
      | (apply wr_strnec; (iterate 3 exact rfl); (first | exact decide_eq_true (by with_reducible assumption) | exact decide_eq_false (by with_reducible assumption) | exact decide_eq_true rfl | exact rfl); with_reducible (conv => enter [6, 3]; whnf))
      | (apply wr_bits; exact rfl; (focus (simp; done)); (iterate 2 exact rfl); assumption)
      | (apply wr_eqnil_t; iterate 2 exact rfl)
      | (apply wr_eqnil_f; iterate 2 exact rfl)
      | (apply wr_nenil_f; iterate 2 exact rfl)
      | (apply wr_nenil_t; iterate 2 exact rfl)
      | (apply wc_true; exact rfl)
      | (apply wc_false; exact rfl)
      | (apply wc_exit; try simp only [thenE, inBlockE, bodyQ, ↓reduceIte, Nat.reduceEqDiff])
      | ((first | apply wc_ret | apply wr_nil); try simp only [thenE, inBlockE, bodyQ])
      | (apply wr_skip; exact rfl)
    refine wr_call (vs := [sb, .int .i64 num']) rfl (rlast_ca L num' sb _ hsb8 (by omega)) rfl ?_
    rintro v w9 ⟨rfl, hk9⟩
    rw [hx]
    have hsa9 := hsa8.keep hk9 (fun _ _ h => h)
    have hsb9 := hsb8.keep hk9 (fun _ _ h => h)
    have hf9 := hk9.heap hf8 (fun h => h)
    repeat first
      | ((first | apply wr_move | apply wr_assign); exact rfl; with_reducible (conv => enter [6, 3]; whnf))
      | (first | apply wr_end | apply wc_seq | apply wc_region | apply wc_skip | apply wc_block)
      | ((first | apply wr_fieldAddr | apply wr_not | apply wr_len_str | apply wr_len_slice | apply wr_box); iterate 2 exact rfl)
      | (apply wr_load; (iterate 3 exact rfl); (focus repeat first | with_reducible assumption | exact heap_alloc_same _ _ | exact World.putObj_heap_same (by first | omega | (simp only [World.size_alloc, World.putObj_size, ne_eq]; omega)) | ((first | refine hAl ?_ ?_ | refine hPu ?_ ?_); focus first | omega | (simp only [World.size_alloc, World.putObj_size, ne_eq]; omega))); exact rfl; conv => enter [6, 3]; whnf)
      | (apply wr_cmp; (iterate 3 exact rfl); (first | exact cmpT (by dsimp only [cmpP]; first | done | omega) | exact cmpF (by dsimp only [cmpN]; first | done | omega) | exact cmp_lt _ _ | exact cmp_le _ _ | exact cmp_gt _ _ | exact cmp_ge _ _ | exact cmp_eq _ _ | exact cmp_ne _ _))
      | (apply wr_pick (t := true); (iterate 2 exact rfl); with_reducible (conv => enter [6, 3]; whnf))
      | (apply wr_pick (t := false); (iterate 2 exact rfl); with_reducible (conv => enter [6, 3]; whnf))
      | ((first | apply wr_add | apply wr_sub | apply wr_mul); (iterate 3 exact rfl); (first | exact w_fit (by dsimp only [kIn]; first | done | omega) | with_reducible assumption | rfl))
      | (apply wr_conv; (iterate 2 exact rfl); (first | exact w_fit (by dsimp only [kIn]; first | done | omega) | with_reducible assumption | rfl))
      | (apply wr_alloc; exact rfl)
      | (apply wr_extract; (iterate 3 exact rfl); with_reducible (conv => enter [6, 3]; whnf))
      | (apply wr_store; (iterate 3 exact rfl); (first | exact rfl | with_reducible assumption); (focus repeat first | with_reducible assumption | exact heap_alloc_same _ _ | exact World.putObj_heap_same (by first | omega | (simp only [World.size_alloc, World.putObj_size, ne_eq]; omega)) | ((first | refine hAl ?_ ?_ | refine hPu ?_ ?_); focus first | omega | (simp only [World.size_alloc, World.putObj_size, ne_eq]; omega))); exact rfl)
      | (apply wr_cat; (iterate 3 exact rfl); (first | omega | (simp only [List.length_append]; omega)))
      | (apply wr_streqc; (iterate 3 exact rfl); (first | exact decide_eq_true (by with_reducible assumption) | exact decide_eq_false (by with_reducible assumption) | exact decide_eq_true rfl | exact rfl))
      | (apply wr_strnec; (iterate 3 exact rfl); (first | exact decide_eq_true (by with_reducible assumption) | exact decide_eq_false (by with_reducible assumption) | exact decide_eq_true rfl | exact rfl); with_reducible (conv => enter [6, 3]; whnf))
      | (apply wr_bits; exact rfl; (focus (simp; done)); (iterate 2 exact rfl); assumption)
      | (apply wr_eqnil_t; iterate 2 exact rfl)
      | (apply wr_eqnil_f; iterate 2 exact rfl)
      | (apply wr_nenil_f; iterate 2 exact rfl)
      | (apply wr_nenil_t; iterate 2 exact rfl)
      | (apply wc_true; exact rfl)
      | (apply wc_false; exact rfl)
      | (apply wc_exit; try simp only [thenE, inBlockE, bodyQ, ↓reduceIte, Nat.reduceEqDiff])
      | ((first | apply wc_ret | apply wr_nil); try simp only [thenE, inBlockE, bodyQ])
      | (apply wr_skip; exact rfl)
    refine wr_storeAll (cs := [.int .i64 x1, .int .i64 x2, .int .u64 (x3 : Int), S x4]) rfl rfl rfl (by intro u hu; simp at hu; rcases hu with rfl | rfl | rfl | rfl <;> rfl) (heap_alloc_same _ _) rfl rfl ?_
    obtain ⟨w10, hw10⟩ : ∃ w10, w10 = (w9.alloc (.cells (Value.agg #[.int .i64 0, .int .i64 0, .int .u64 0, S []]).cells 33)).putObj w9.heap.size (.cells #[.int .i64 x1, .int .i64 x2, .int .u64 (x3 : Int), S x4] 33 (0, 0)) := ⟨_, rfl⟩
    have hk10 : Keeps NoB w9 w10 := by rw [hw10]; exact ((Keeps.refl NoB w9).alloc _).put _ (fun h => by omega)
    have hg10 : w10.heap[w9.heap.size]? = some (.cells #[.int .i64 x1, .int .i64 x2, .int .u64 (x3 : Int), S x4] 33 (0, 0)) := by rw [hw10]; exact World.putObj_heap_same (by simp)
    rw [← hw10]
    clear hw10
    generalize w9.heap.size = fb at hg10 ⊢
    have hf10 := hk10.heap hf9 (fun h => h)
    have hsa10 := hsa9.keep hk10 (fun _ _ h => h)
    have hsb10 := hsb9.keep hk10 (fun _ _ h => h)
    have hk210 := hk28.trans (hk9.trans hk10)
    clear hsa8 hsa9 hsb8 hsb9 hk28 hk9 hk10 hf8 hf9 hx
    repeat first
      | ((first | apply wr_move | apply wr_assign); exact rfl; with_reducible (conv => enter [6, 3]; whnf))
      | (first | apply wr_end | apply wc_seq | apply wc_region | apply wc_skip | apply wc_block)
      | ((first | apply wr_fieldAddr | apply wr_not | apply wr_len_str | apply wr_len_slice | apply wr_box); iterate 2 exact rfl)
      | (apply wr_load; (iterate 3 exact rfl); (focus repeat first | with_reducible assumption | exact heap_alloc_same _ _ | exact World.putObj_heap_same (by first | omega | (simp only [World.size_alloc, World.putObj_size, ne_eq]; omega)) | ((first | refine hAl ?_ ?_ | refine hPu ?_ ?_); focus first | omega | (simp only [World.size_alloc, World.putObj_size, ne_eq]; omega))); exact rfl; conv => enter [6, 3]; whnf)
      | (apply wr_cmp; (iterate 3 exact rfl); (first | exact cmpT (by dsimp only [cmpP]; first | done | omega) | exact cmpF (by dsimp only [cmpN]; first | done | omega) | exact cmp_lt _ _ | exact cmp_le _ _ | exact cmp_gt _ _ | exact cmp_ge _ _ | exact cmp_eq _ _ | exact cmp_ne _ _))
      | (apply wr_pick (t := true); (iterate 2 exact rfl); with_reducible (conv => enter [6, 3]; whnf))
      | (apply wr_pick (t := false); (iterate 2 exact rfl); with_reducible (conv => enter [6, 3]; whnf))
      | ((first | apply wr_add | apply wr_sub | apply wr_mul); (iterate 3 exact rfl); (first | exact w_fit (by dsimp only [kIn]; first | done | omega) | with_reducible assumption | rfl))
      | (apply wr_conv; (iterate 2 exact rfl); (first | exact w_fit (by dsimp only [kIn]; first | done | omega) | with_reducible assumption | rfl))
      | (apply wr_alloc; exact rfl)
      | (apply wr_extract; (iterate 3 exact rfl); with_reducible (conv => enter [6, 3]; whnf))
      | (apply wr_store; (iterate 3 exact rfl); (first | exact rfl | with_reducible assumption); (focus repeat first | with_reducible assumption | exact heap_alloc_same _ _ | exact World.putObj_heap_same (by first | omega | (simp only [World.size_alloc, World.putObj_size, ne_eq]; omega)) | ((first | refine hAl ?_ ?_ | refine hPu ?_ ?_); focus first | omega | (simp only [World.size_alloc, World.putObj_size, ne_eq]; omega))); exact rfl)
      | (apply wr_cat; (iterate 3 exact rfl); (first | omega | (simp only [List.length_append]; omega)))
      | (apply wr_streqc; (iterate 3 exact rfl); (first | exact decide_eq_true (by with_reducible assumption) | exact decide_eq_false (by with_reducible assumption) | exact decide_eq_true rfl | exact rfl))
      | (apply wr_strnec; (iterate 3 exact rfl); (first | exact decide_eq_true (by with_reducible assumption) | exact decide_eq_false (by with_reducible assumption) | exact decide_eq_true rfl | exact rfl); with_reducible (conv => enter [6, 3]; whnf))
      | (apply wr_bits; exact rfl; (focus (simp; done)); (iterate 2 exact rfl); assumption)
      | (apply wr_eqnil_t; iterate 2 exact rfl)
      | (apply wr_eqnil_f; iterate 2 exact rfl)
      | (apply wr_nenil_f; iterate 2 exact rfl)
      | (apply wr_nenil_t; iterate 2 exact rfl)
      | (apply wc_true; exact rfl)
      | (apply wc_false; exact rfl)
      | (apply wc_exit; try simp only [thenE, inBlockE, bodyQ, ↓reduceIte, Nat.reduceEqDiff])
      | ((first | apply wc_ret | apply wr_nil); try simp only [thenE, inBlockE, bodyQ])
      | (apply wr_skip; exact rfl)
    refine wr_call (vs := [sa, .int .i64 num']) rfl (all_ca L num' sa _ hsa10 (by omega)) rfl ?_
    rintro va w11 ⟨ho11, hk11⟩
    have hal11 : (allF L num').length ≤ 1000000000 := Nat.le_trans (List.length_filter_le _ _) hLl
    have hsb11 := hsb10.keep hk11 (fun _ _ h => h)
    refine wr_call (vs := [va]) rfl (ref_ca (allF L num') va _ (SlR.of_own ho11) (by omega)) rfl ?_
    rintro vr w12 ⟨ho12, hk12⟩
    have hsb12 := hsb11.keep hk12 (fun _ _ h => h)
    repeat first
      | ((first | apply wr_move | apply wr_assign); exact rfl; with_reducible (conv => enter [6, 3]; whnf))
      | (first | apply wr_end | apply wc_seq | apply wc_region | apply wc_skip | apply wc_block)
      | ((first | apply wr_fieldAddr | apply wr_not | apply wr_len_str | apply wr_len_slice | apply wr_box); iterate 2 exact rfl)
      | (apply wr_load; (iterate 3 exact rfl); (focus repeat first | with_reducible assumption | exact heap_alloc_same _ _ | exact World.putObj_heap_same (by first | omega | (simp only [World.size_alloc, World.putObj_size, ne_eq]; omega)) | ((first | refine hAl ?_ ?_ | refine hPu ?_ ?_); focus first | omega | (simp only [World.size_alloc, World.putObj_size, ne_eq]; omega))); exact rfl; conv => enter [6, 3]; whnf)
      | (apply wr_cmp; (iterate 3 exact rfl); (first | exact cmpT (by dsimp only [cmpP]; first | done | omega) | exact cmpF (by dsimp only [cmpN]; first | done | omega) | exact cmp_lt _ _ | exact cmp_le _ _ | exact cmp_gt _ _ | exact cmp_ge _ _ | exact cmp_eq _ _ | exact cmp_ne _ _))
      | (apply wr_pick (t := true); (iterate 2 exact rfl); with_reducible (conv => enter [6, 3]; whnf))
      | (apply wr_pick (t := false); (iterate 2 exact rfl); with_reducible (conv => enter [6, 3]; whnf))
      | ((first | apply wr_add | apply wr_sub | apply wr_mul); (iterate 3 exact rfl); (first | exact w_fit (by dsimp only [kIn]; first | done | omega) | with_reducible assumption | rfl))
      | (apply wr_conv; (iterate 2 exact rfl); (first | exact w_fit (by dsimp only [kIn]; first | done | omega) | with_reducible assumption | rfl))
      | (apply wr_alloc; exact rfl)
      | (apply wr_extract; (iterate 3 exact rfl); with_reducible (conv => enter [6, 3]; whnf))
      | (apply wr_store; (iterate 3 exact rfl); (first | exact rfl | with_reducible assumption); (focus repeat first | with_reducible assumption | exact heap_alloc_same _ _ | exact World.putObj_heap_same (by first | omega | (simp only [World.size_alloc, World.putObj_size, ne_eq]; omega)) | ((first | refine hAl ?_ ?_ | refine hPu ?_ ?_); focus first | omega | (simp only [World.size_alloc, World.putObj_size, ne_eq]; omega))); exact rfl)
      | (apply wr_cat; (iterate 3 exact rfl); (first | omega | (simp only [List.length_append]; omega)))
      | (apply wr_streqc; (iterate 3 exact rfl); (first | exact decide_eq_true (by with_reducible assumption) | exact decide_eq_false (by with_reducible assumption) | exact decide_eq_true rfl | exact rfl))
      | (apply wr_strnec; (iterate 3 exact rfl); (first | exact decide_eq_true (by with_reducible assumption) | exact decide_eq_false (by with_reducible assumption) | exact decide_eq_true rfl | exact rfl); with_reducible (conv => enter [6, 3]; whnf))
      | (apply wr_bits; exact rfl; (focus (simp; done)); (iterate 2 exact rfl); assumption)
      | (apply wr_eqnil_t; iterate 2 exact rfl)
      | (apply wr_eqnil_f; iterate 2 exact rfl)
      | (apply wr_nenil_f; iterate 2 exact rfl)
      | (apply wr_nenil_t; iterate 2 exact rfl)
      | (apply wc_true; exact rfl)
      | (apply wc_false; exact rfl)
      | (apply wc_exit; try simp only [thenE, inBlockE, bodyQ, ↓reduceIte, Nat.reduceEqDiff])
      | ((first | apply wc_ret | apply wr_nil); try simp only [thenE, inBlockE, bodyQ])
      | (apply wr_skip; exact rfl)
    refine wr_call (vs := [sb, .int .i64 num']) rfl (rall_ca L num' sb _ hsb12 (by omega)) rfl ?_
    rintro vb w13 ⟨ho13, hk13⟩
    have hs13 := (SlR.of_own ho12).keep hk13 (fun _ _ h => h)
    refine wr_call (vs := [vr, vb]) rfl (same_ca (allF L num') vr vb _ hs13 (SlR.of_own ho13) (by omega)) rfl ?_
    rintro v w14 ⟨rfl, hk14⟩
    have hk1014 := hk11.trans (hk12.trans (hk13.trans hk14))
    have hf14 := hk1014.heap hf10 (fun h => h)
    have hg14 := hk1014.heap hg10 (fun h => h)
    have hk214 := hk210.trans hk1014
    clear hsa10 hsb10 hsb11 hsb12 ho11 ho12 ho13 hs13 hk11 hk12 hk13 hk14 hk210 hf10 hg10 hk1014
    repeat first
      | ((first | apply wr_move | apply wr_assign); exact rfl; with_reducible (conv => enter [6, 3]; whnf))
      | (first | apply wr_end | apply wc_seq | apply wc_region | apply wc_skip | apply wc_block)
      | ((first | apply wr_fieldAddr | apply wr_not | apply wr_len_str | apply wr_len_slice | apply wr_box); iterate 2 exact rfl)
      | (apply wr_load; (iterate 3 exact rfl); (focus repeat first | with_reducible assumption | exact heap_alloc_same _ _ | exact World.putObj_heap_same (by first | omega | (simp only [World.size_alloc, World.putObj_size, ne_eq]; omega)) | ((first | refine hAl ?_ ?_ | refine hPu ?_ ?_); focus first | omega | (simp only [World.size_alloc, World.putObj_size, ne_eq]; omega))); exact rfl; conv => enter [6, 3]; whnf)
      | (apply wr_cmp; (iterate 3 exact rfl); (first | exact cmpT (by dsimp only [cmpP]; first | done | omega) | exact cmpF (by dsimp only [cmpN]; first | done | omega) | exact cmp_lt _ _ | exact cmp_le _ _ | exact cmp_gt _ _ | exact cmp_ge _ _ | exact cmp_eq _ _ | exact cmp_ne _ _))
      | (apply wr_pick (t := true); (iterate 2 exact rfl); with_reducible (conv => enter [6, 3]; whnf))
      | (apply wr_pick (t := false); (iterate 2 exact rfl); with_reducible (conv => enter [6, 3]; whnf))
      | ((first | apply wr_add | apply wr_sub | apply wr_mul); (iterate 3 exact rfl); (first | exact w_fit (by dsimp only [kIn]; first | done | omega) | with_reducible assumption | rfl))
      | (apply wr_conv; (iterate 2 exact rfl); (first | exact w_fit (by dsimp only [kIn]; first | done | omega) | with_reducible assumption | rfl))
      | (apply wr_alloc; exact rfl)
      | (apply wr_extract; (iterate 3 exact rfl); with_reducible (conv => enter [6, 3]; whnf))
      | (apply wr_store; (iterate 3 exact rfl); (first | exact rfl | with_reducible assumption); (focus repeat first | with_reducible assumption | exact heap_alloc_same _ _ | exact World.putObj_heap_same (by first | omega | (simp only [World.size_alloc, World.putObj_size, ne_eq]; omega)) | ((first | refine hAl ?_ ?_ | refine hPu ?_ ?_); focus first | omega | (simp only [World.size_alloc, World.putObj_size, ne_eq]; omega))); exact rfl)
      | (apply wr_cat; (iterate 3 exact rfl); (first | omega | (simp only [List.length_append]; omega)))
      | (apply wr_streqc; (iterate 3 exact rfl); (first | exact decide_eq_true (by with_reducible assumption) | exact decide_eq_false (by with_reducible assumption) | exact decide_eq_true rfl | exact rfl))
      | (apply wr_strnec; (iterate 3 exact rfl); (first | exact decide_eq_true (by with_reducible assumption) | exact decide_eq_false (by with_reducible assumption) | exact decide_eq_true rfl | exact rfl); with_reducible (conv => enter [6, 3]; whnf))
      | (apply wr_bits; exact rfl; (focus (simp; done)); (iterate 2 exact rfl); assumption)
      | (apply wr_eqnil_t; iterate 2 exact rfl)
      | (apply wr_eqnil_f; iterate 2 exact rfl)
      | (apply wr_nenil_f; iterate 2 exact rfl)
      | (apply wr_nenil_t; iterate 2 exact rfl)
      | (apply wc_true; exact rfl)
      | (apply wc_false; exact rfl)
      | (apply wc_exit; try simp only [thenE, inBlockE, bodyQ, ↓reduceIte, Nat.reduceEqDiff])
      | ((first | apply wc_ret | apply wr_nil); try simp only [thenE, inBlockE, bodyQ])
      | (apply wr_skip; exact rfl)
    refine wc_drawP (l := _) 7 _ (by kernel_rfl) (by kernel_rfl) rfl (by kernel_rfl) (by kernel_rfl) (by decide) ?_
    apply chP_pure
    focus
      intro x w' hk hF
      refine wr_loadAll (cs := [.int .i64 x1, .int .i64 x2, .int .u64 (x3 : Int), S x4]) rfl rfl rfl (hk.heap (a := w14.drew) hf14 (fun h => h)) rfl ?_
      apply wr_nil
      exact ⟨rfl, Keeps.refl _ _⟩
    focus (intro x y h; rfl)
    focus kernel_rfl
    refine chP_fact (fun y => y) (fun y w => SlR w 4 y 1 (FL [⟨x1, x2, x3, x4⟩])) (fun y w w' h k => h.keep k (fun _ _ h => h)) ?_ ?_
    focus
      intro x w' hk hF
      refine wr_buildSlice (vs := [.agg #[.int .i64 x1, .int .i64 x2, .int .u64 (x3 : Int), S x4]]) rfl rfl (by intro v hv; simp at hv; subst hv; rfl) rfl (by decide) (by decide) (by decide) ?_
      apply wr_nil
      exact ⟨_, rfl, ⟨rfl, _, _, rfl, Nat.le_refl _, .inr ⟨_, 0, _, _, _, rfl, heap_alloc_same _ _, fun j hj => by rw [Nat.zero_add, List.getElem?_toArray]; rfl⟩⟩, (Keeps.refl _ _).alloc _⟩
    refine chP_fact (fun y => y) (fun y w => SlR w 4 y 1 (FL [⟨x1, x2, x3, x4⟩])) (fun y w w' h k => h.keep k (fun _ _ h => h)) ?_ ?_
    focus
      intro x w' hk hF
      refine wr_call (vs := [x 1]) rfl (ref_ca [⟨x1, x2, x3, x4⟩] (x 1) _ (hF 1 (by kernel_rfl)) (show 1 ≤ 1000000000000 by decide)) rfl ?_; rintro v'' w'' ⟨ho', hk'⟩
      apply wr_nil
      exact ⟨v'', rfl, SlR.of_own ho', hk'⟩
    apply chP_pure
    focus
      intro x w' hk hF
      refine wr_loadAll (cs := [.int .i64 x1, .int .i64 x2, .int .u64 (x3 : Int), S x4]) rfl rfl rfl (hk.heap (a := w14.drew) hg14 (fun h => h)) rfl ?_
      apply wr_nil
      exact ⟨rfl, Keeps.refl _ _⟩
    focus (intro x y h; rfl)
    focus kernel_rfl
    refine chP_fact (fun y => y) (fun y w => SlR w 4 y 1 (FL [⟨x1, x2, x3, x4⟩])) (fun y w w' h k => h.keep k (fun _ _ h => h)) ?_ ?_
    focus
      intro x w' hk hF
      refine wr_buildSlice (vs := [.agg #[.int .i64 x1, .int .i64 x2, .int .u64 (x3 : Int), S x4]]) rfl rfl (by intro v hv; simp at hv; subst hv; rfl) rfl (by decide) (by decide) (by decide) ?_
      apply wr_nil
      exact ⟨_, rfl, ⟨rfl, _, _, rfl, Nat.le_refl _, .inr ⟨_, 0, _, _, _, rfl, heap_alloc_same _ _, fun j hj => by rw [Nat.zero_add, List.getElem?_toArray]; rfl⟩⟩, (Keeps.refl _ _).alloc _⟩
    apply chP_pure
    focus
      intro x w' hk hF
      refine wr_call (vs := [x 2, x 4]) rfl (same_ca [⟨x1, x2, x3, x4⟩] (x 2) (x 4) _ (hF 2 (by kernel_rfl)) (hF 4 (by kernel_rfl)) (show 1 ≤ 1000000000000 by decide)) rfl ?_
      rintro v'' w'' ⟨rfl, hk'⟩
      apply wr_nil
      exact ⟨rfl, hk'⟩
    focus (intro x y h; rfl)
    focus kernel_rfl
    apply chP_pure
    focus
      intro x w' hk hF
      apply wr_assign; exact rfl
      apply wr_nil
      exact ⟨rfl, Keeps.refl _ _⟩
    focus (intro x y h; rfl)
    focus kernel_rfl
    refine chP_nil ?_
    intro x w15 hk15 hF
    have hk215 := hk214.trans ((Keeps.refl NoB w14).drew.trans hk15)
    apply wr_end
    refine wc_keep [(13, .bool true), (19, .bool ok), (21, .bool ok), (22, .bool true), (24, .bool is), (26, .bool is), (27, .bool true), (28, .bool true)] ⟨rfl, rfl, rfl, rfl, rfl, rfl, rfl, rfl, trivial⟩ ?_
    intro f2
    clear hF x
    repeat first
      | ((first | apply wr_move | apply wr_assign); exact rfl; with_reducible (conv => enter [6, 3]; whnf))
      | (first | apply wr_end | apply wc_seq | apply wc_region | apply wc_skip | apply wc_block)
      | ((first | apply wr_fieldAddr | apply wr_not | apply wr_len_str | apply wr_len_slice | apply wr_box); iterate 2 exact rfl)
      | (apply wr_load; (iterate 3 exact rfl); (focus repeat first | with_reducible assumption | exact heap_alloc_same _ _ | exact World.putObj_heap_same (by first | omega | (simp only [World.size_alloc, World.putObj_size, ne_eq]; omega)) | ((first | refine hAl ?_ ?_ | refine hPu ?_ ?_); focus first | omega | (simp only [World.size_alloc, World.putObj_size, ne_eq]; omega))); exact rfl; conv => enter [6, 3]; whnf)
      | (apply wr_cmp; (iterate 3 exact rfl); (first | exact cmpT (by dsimp only [cmpP]; first | done | omega) | exact cmpF (by dsimp only [cmpN]; first | done | omega) | exact cmp_lt _ _ | exact cmp_le _ _ | exact cmp_gt _ _ | exact cmp_ge _ _ | exact cmp_eq _ _ | exact cmp_ne _ _))
      | (apply wr_pick (t := true); (iterate 2 exact rfl); with_reducible (conv => enter [6, 3]; whnf))
      | (apply wr_pick (t := false); (iterate 2 exact rfl); with_reducible (conv => enter [6, 3]; whnf))
      | ((first | apply wr_add | apply wr_sub | apply wr_mul); (iterate 3 exact rfl); (first | exact w_fit (by dsimp only [kIn]; first | done | omega) | with_reducible assumption | rfl))
      | (apply wr_conv; (iterate 2 exact rfl); (first | exact w_fit (by dsimp only [kIn]; first | done | omega) | with_reducible assumption | rfl))
      | (apply wr_alloc; exact rfl)
      | (apply wr_extract; (iterate 3 exact rfl); with_reducible (conv => enter [6, 3]; whnf))
      | (apply wr_store; (iterate 3 exact rfl); (first | exact rfl | with_reducible assumption); (focus repeat first | with_reducible assumption | exact heap_alloc_same _ _ | exact World.putObj_heap_same (by first | omega | (simp only [World.size_alloc, World.putObj_size, ne_eq]; omega)) | ((first | refine hAl ?_ ?_ | refine hPu ?_ ?_); focus first | omega | (simp only [World.size_alloc, World.putObj_size, ne_eq]; omega))); exact rfl)
      | (apply wr_cat; (iterate 3 exact rfl); (first | omega | (simp only [List.length_append]; omega)))
      | (apply wr_streqc; (iterate 3 exact rfl); (first | exact decide_eq_true (by with_reducible assumption) | exact decide_eq_false (by with_reducible assumption) | exact decide_eq_true rfl | exact rfl))
      | (apply wr_strnec; (iterate 3 exact rfl); (first | exact decide_eq_true (by with_reducible assumption) | exact decide_eq_false (by with_reducible assumption) | exact decide_eq_true rfl | exact rfl); with_reducible (conv => enter [6, 3]; whnf))
      | (apply wr_bits; exact rfl; (focus (simp; done)); (iterate 2 exact rfl); assumption)
      | (apply wr_eqnil_t; iterate 2 exact rfl)
      | (apply wr_eqnil_f; iterate 2 exact rfl)
      | (apply wr_nenil_f; iterate 2 exact rfl)
      | (apply wr_nenil_t; iterate 2 exact rfl)
      | (apply wc_true; exact rfl)
      | (apply wc_false; exact rfl)
      | (apply wc_exit; try simp only [thenE, inBlockE, bodyQ, ↓reduceIte, Nat.reduceEqDiff])
      | ((first | apply wc_ret | apply wr_nil); try simp only [thenE, inBlockE, bodyQ])
      | (apply wr_skip; exact rfl)
    refine wr_boolEq (c := true) rfl rfl rfl (by simp) ?_
    repeat first
      | ((first | apply wr_move | apply wr_assign); exact rfl; with_reducible (conv => enter [6, 3]; whnf))
      | (first | apply wr_end | apply wc_seq | apply wc_region | apply wc_skip | apply wc_block)
      | ((first | apply wr_fieldAddr | apply wr_not | apply wr_len_str | apply wr_len_slice | apply wr_box); iterate 2 exact rfl)
      | (apply wr_load; (iterate 3 exact rfl); (focus repeat first | with_reducible assumption | exact heap_alloc_same _ _ | exact World.putObj_heap_same (by first | omega | (simp only [World.size_alloc, World.putObj_size, ne_eq]; omega)) | ((first | refine hAl ?_ ?_ | refine hPu ?_ ?_); focus first | omega | (simp only [World.size_alloc, World.putObj_size, ne_eq]; omega))); exact rfl; conv => enter [6, 3]; whnf)
      | (apply wr_cmp; (iterate 3 exact rfl); (first | exact cmpT (by dsimp only [cmpP]; first | done | omega) | exact cmpF (by dsimp only [cmpN]; first | done | omega) | exact cmp_lt _ _ | exact cmp_le _ _ | exact cmp_gt _ _ | exact cmp_ge _ _ | exact cmp_eq _ _ | exact cmp_ne _ _))
      | (apply wr_pick (t := true); (iterate 2 exact rfl); with_reducible (conv => enter [6, 3]; whnf))
      | (apply wr_pick (t := false); (iterate 2 exact rfl); with_reducible (conv => enter [6, 3]; whnf))
      | ((first | apply wr_add | apply wr_sub | apply wr_mul); (iterate 3 exact rfl); (first | exact w_fit (by dsimp only [kIn]; first | done | omega) | with_reducible assumption | rfl))
      | (apply wr_conv; (iterate 2 exact rfl); (first | exact w_fit (by dsimp only [kIn]; first | done | omega) | with_reducible assumption | rfl))
      | (apply wr_alloc; exact rfl)
      | (apply wr_extract; (iterate 3 exact rfl); with_reducible (conv => enter [6, 3]; whnf))
      | (apply wr_store; (iterate 3 exact rfl); (first | exact rfl | with_reducible assumption); (focus repeat first | with_reducible assumption | exact heap_alloc_same _ _ | exact World.putObj_heap_same (by first | omega | (simp only [World.size_alloc, World.putObj_size, ne_eq]; omega)) | ((first | refine hAl ?_ ?_ | refine hPu ?_ ?_); focus first | omega | (simp only [World.size_alloc, World.putObj_size, ne_eq]; omega))); exact rfl)
      | (apply wr_cat; (iterate 3 exact rfl); (first | omega | (simp only [List.length_append]; omega)))
      | (apply wr_streqc; (iterate 3 exact rfl); (first | exact decide_eq_true (by with_reducible assumption) | exact decide_eq_false (by with_reducible assumption) | exact decide_eq_true rfl | exact rfl))
      | (apply wr_strnec; (iterate 3 exact rfl); (first | exact decide_eq_true (by with_reducible assumption) | exact decide_eq_false (by with_reducible assumption) | exact decide_eq_true rfl | exact rfl); with_reducible (conv => enter [6, 3]; whnf))
      | (apply wr_bits; exact rfl; (focus (simp; done)); (iterate 2 exact rfl); assumption)
      | (apply wr_eqnil_t; iterate 2 exact rfl)
      | (apply wr_eqnil_f; iterate 2 exact rfl)
      | (apply wr_nenil_f; iterate 2 exact rfl)
      | (apply wr_nenil_t; iterate 2 exact rfl)
      | (apply wc_true; exact rfl)
      | (apply wc_false; exact rfl)
      | (apply wc_exit; try simp only [thenE, inBlockE, bodyQ, ↓reduceIte, Nat.reduceEqDiff])
      | ((first | apply wc_ret | apply wr_nil); try simp only [thenE, inBlockE, bodyQ])
      | (apply wr_skip; exact rfl)
    refine wr_boolEq (c := true) rfl rfl rfl (by simp) ?_
    repeat first
      | ((first | apply wr_move | apply wr_assign); exact rfl; with_reducible (conv => enter [6, 3]; whnf))
      | (first | apply wr_end | apply wc_seq | apply wc_region | apply wc_skip | apply wc_block)
      | ((first | apply wr_fieldAddr | apply wr_not | apply wr_len_str | apply wr_len_slice | apply wr_box); iterate 2 exact rfl)
      | (apply wr_load; (iterate 3 exact rfl); (focus repeat first | with_reducible assumption | exact heap_alloc_same _ _ | exact World.putObj_heap_same (by first | omega | (simp only [World.size_alloc, World.putObj_size, ne_eq]; omega)) | ((first | refine hAl ?_ ?_ | refine hPu ?_ ?_); focus first | omega | (simp only [World.size_alloc, World.putObj_size, ne_eq]; omega))); exact rfl; conv => enter [6, 3]; whnf)
      | (apply wr_cmp; (iterate 3 exact rfl); (first | exact cmpT (by dsimp only [cmpP]; first | done | omega) | exact cmpF (by dsimp only [cmpN]; first | done | omega) | exact cmp_lt _ _ | exact cmp_le _ _ | exact cmp_gt _ _ | exact cmp_ge _ _ | exact cmp_eq _ _ | exact cmp_ne _ _))
      | (apply wr_pick (t := true); (iterate 2 exact rfl); with_reducible (conv => enter [6, 3]; whnf))
      | (apply wr_pick (t := false); (iterate 2 exact rfl); with_reducible (conv => enter [6, 3]; whnf))
      | ((first | apply wr_add | apply wr_sub | apply wr_mul); (iterate 3 exact rfl); (first | exact w_fit (by dsimp only [kIn]; first | done | omega) | with_reducible assumption | rfl))
      | (apply wr_conv; (iterate 2 exact rfl); (first | exact w_fit (by dsimp only [kIn]; first | done | omega) | with_reducible assumption | rfl))
      | (apply wr_alloc; exact rfl)
      | (apply wr_extract; (iterate 3 exact rfl); with_reducible (conv => enter [6, 3]; whnf))
      | (apply wr_store; (iterate 3 exact rfl); (first | exact rfl | with_reducible assumption); (focus repeat first | with_reducible assumption | exact heap_alloc_same _ _ | exact World.putObj_heap_same (by first | omega | (simp only [World.size_alloc, World.putObj_size, ne_eq]; omega)) | ((first | refine hAl ?_ ?_ | refine hPu ?_ ?_); focus first | omega | (simp only [World.size_alloc, World.putObj_size, ne_eq]; omega))); exact rfl)
      | (apply wr_cat; (iterate 3 exact rfl); (first | omega | (simp only [List.length_append]; omega)))
      | (apply wr_streqc; (iterate 3 exact rfl); (first | exact decide_eq_true (by with_reducible assumption) | exact decide_eq_false (by with_reducible assumption) | exact decide_eq_true rfl | exact rfl))
      | (apply wr_strnec; (iterate 3 exact rfl); (first | exact decide_eq_true (by with_reducible assumption) | exact decide_eq_false (by with_reducible assumption) | exact decide_eq_true rfl | exact rfl); with_reducible (conv => enter [6, 3]; whnf))
      | (apply wr_bits; exact rfl; (focus (simp; done)); (iterate 2 exact rfl); assumption)
      | (apply wr_eqnil_t; iterate 2 exact rfl)
      | (apply wr_eqnil_f; iterate 2 exact rfl)
      | (apply wr_nenil_f; iterate 2 exact rfl)
      | (apply wr_nenil_t; iterate 2 exact rfl)
      | (apply wc_true; exact rfl)
      | (apply wc_false; exact rfl)
      | (apply wc_exit; try simp only [thenE, inBlockE, bodyQ, ↓reduceIte, Nat.reduceEqDiff])
      | ((first | apply wc_ret | apply wr_nil); try simp only [thenE, inBlockE, bodyQ])
      | (apply wr_skip; exact rfl)
    exact leave1 (v := .bool true) rfl rfl ⟨rfl, hk215⟩
end Go.Proofs.YtpilcnkgpgkboaaDoor
