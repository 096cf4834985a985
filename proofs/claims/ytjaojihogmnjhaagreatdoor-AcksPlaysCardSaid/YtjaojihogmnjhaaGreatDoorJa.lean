/- noriaref01.Varint, Put, Number, Text; noriaref03.Name: what they do (the texts of packages 01 and 09, turned to this seat). -/
import Derived.Test.YtjaojihogmnjhaaGreatDoorKn
namespace Go.Proofs.YtjaojihogmnjhaaGreatDoor
open Go Go.V Go.RowKit
set_option linter.unusedVariables false
set_option linter.unusedSimpArgs false

set_option maxRecDepth 100000 in
set_option maxHeartbeats 1000000 in
theorem rvarint_ca (n : Nat) (hn : n < 18446744073709551616) (w : World) :
    Ca Tryz.prog 76 #[.int .u64 (n : Int)] w fun v w' => v = S (varint n) ∧ Keeps NoB w w' := by
  refine ca_of_body (args := [.int .u64 (n : Int)]) Tryz.func76 rfl (by kernel_rfl) ?_
  (repeat first | (apply wr_assign; exact rfl; with_reducible (conv => enter [6, 3]; whnf)) | apply wr_end | apply wc_seq | apply wc_region | apply wc_block)
  refine wc_loopL (α := Nat × Value × List UInt8) (fun x => [(0, .int .u64 (x.1 : Int)), (3, x.2.1)])
    (fun x ds w' => ds = [] ∧ x.1 < 18446744073709551616 ∧ x.2.2.length ≤ 10 ∧ x.2.2 ++ varint x.1 = varint n ∧ w'.ownsRow w.heap.size 5 1 x.2.1 x.2.2.length (bytesV x.2.2) ∧ Keeps NoB w w') (fun x => x.1) (n, .slice none 0 0, []) ⟨rfl, hn, by simp, rfl, ⟨rfl, .inl ⟨rfl, rfl⟩⟩, Keeps.refl _ _⟩ ⟨rfl, rfl, trivial⟩ ?_
  rintro ⟨m, v2, pre⟩ ds f0 w2 ⟨rfl, hm, hpl, hpre, ho2, hk2⟩
  simp only at hm hpl hpre ho2
  dsimp only
  have hvl := varint_le 9 n (by omega)
  have hle : pre.length + (varint m).length ≤ 10 := by rw [← List.length_append, hpre]; exact hvl
  have hpos : 1 ≤ (varint m).length := by unfold varint; split <;> simp
  have hs2 := hk2.size
  by_cases hlt : m < 128
  · (repeat first | (apply wr_move; exact rfl; with_reducible (conv => enter [6, 3]; whnf)) | apply wr_end | apply wc_seq | apply wc_region | (apply wr_cmp; (iterate 3 exact rfl); exact cmpF (by dsimp only [cmpN]; first | done | omega)) | (apply wr_conv; (iterate 2 exact rfl); exact w_fit (by dsimp only [kIn]; first | done | omega)) | (apply wc_false; exact rfl) | (apply wc_exit; try simp only [thenE, inBlockE, bodyQ, ↓reduceIte, Nat.reduceEqDiff]))
    refine wr_buildSlice (vs := [.int .u8 (m : Int)]) rfl rfl (by intro v hv; simp at hv; subst hv; rfl) rfl (by decide) (by decide) (by decide) ?_
    refine wr_append (v := v2) (n := pre.length) (m := 1) (news := [.int .u8 (m : Int)]) rfl rfl (ho2.alloc _) rfl (heap_alloc_same _ _) rfl (by intro v hv; simp at hv; subst hv; rfl) rfl (by decide) (by omega) (by omega) (by simp; omega) ?_
    intro v3 w3 ho3 hk3 _
    have hb : bytesV pre ++ [.int .u8 (m : Int)] = bytesV (pre ++ [UInt8.ofNat m]) := by rw [bytesV_snoc]; simp; omega
    rw [hb] at ho3
    refine wr_bytes2str rfl rfl (SlR.of_own ho3) ?_
    (repeat first | (apply wr_assign; exact rfl; with_reducible (conv => enter [6, 3]; whnf)) | apply wr_end | (apply wc_ret; try simp only [thenE, inBlockE, bodyQ]))
    refine leave1 (v := S (pre ++ [UInt8.ofNat m])) rfl rfl ⟨?_, ?_⟩
    · rw [← hpre, varint_lt hlt]
    · exact (hk2.alloc _).trans' hk3 fun i hi h => absurd (ho2.lt i h).1 (by omega)
  · (repeat first | (apply wr_move; exact rfl; with_reducible (conv => enter [6, 3]; whnf)) | apply wr_end | apply wc_seq | apply wc_region | apply wc_skip | apply wc_block | (apply wr_cmp; (iterate 3 exact rfl); exact cmpT (by dsimp only [cmpP]; first | done | omega)) | (apply wc_true; exact rfl))
    refine wr_remN (n := m) (m := 128) rfl rfl rfl (by decide) ?_
    (repeat first | (apply wr_add; (iterate 3 exact rfl); exact w_fit (by dsimp only [kIn]; first | done | omega)) | (apply wr_conv; (iterate 2 exact rfl); exact w_fit (by dsimp only [kIn]; first | done | omega)))
    have hb8 : ((m % 128 : Nat) : Int) + 128 = ((UInt8.ofNat (m % 128 + 128)).toNat : Int) := by simp; omega
    rw [hb8]
    refine wr_buildSlice (vs := [.int .u8 ((UInt8.ofNat (m % 128 + 128)).toNat : Int)]) rfl rfl (by intro v hv; simp at hv; subst hv; rfl) rfl (by decide) (by decide) (by decide) ?_
    refine wr_append (v := v2) (n := pre.length) (m := 1) (news := [.int .u8 ((UInt8.ofNat (m % 128 + 128)).toNat : Int)]) rfl rfl (ho2.alloc _) rfl (heap_alloc_same _ _) rfl (by intro v hv; simp at hv; subst hv; rfl) rfl (by decide) (by omega) (by omega) (by simp; omega) ?_
    intro v3 w3 ho3 hk3 _
    rw [← bytesV_snoc] at ho3
    (repeat first | (apply wr_move; exact rfl; with_reducible (conv => enter [6, 3]; whnf)) | (apply wr_assign; exact rfl; with_reducible (conv => enter [6, 3]; whnf)) | apply wr_end | apply wc_region)
    refine wr_quoN (n := m) (m := 128) rfl rfl rfl (by decide) (w_u64 (by omega)) ?_
    (repeat first | (apply wr_assign; exact rfl; with_reducible (conv => enter [6, 3]; whnf)) | (apply wr_nil; try simp only [thenE, inBlockE, bodyQ]))
    rw [varint_ge (by omega)] at hpre hle
    refine ⟨(m / 128, v3, pre ++ [UInt8.ofNat (m % 128 + 128)]), by simp only; omega, ⟨by trivial, by simp only; omega, ?_, ?_, ?_, ?_⟩, rfl, rfl, trivial⟩
    · simp at hle ⊢; omega
    · simpa using hpre
    · simpa using ho3
    · exact (hk2.alloc _).trans' hk3 fun i hi h => absurd (ho2.lt i h).1 (by omega)
theorem rvarint_ca' (z : Int) (h0 : 0 ≤ z) (h1 : z < 18446744073709551616) (w : World) :
    Ca Tryz.prog 76 #[.int .u64 z] w fun v w' => v = S (varint z.toNat) ∧ Keeps NoB w w' := by
  obtain ⟨n, rfl⟩ := Int.eq_ofNat_of_zero_le h0
  rw [Int.toNat_natCast]
  exact rvarint_ca n (by omega) w
set_option maxRecDepth 100000 in
set_option maxHeartbeats 8000000 in
theorem rput_ca (x : WF) (hx : x.ok) (w : World) : Ca Tryz.prog 58 #[x.v] w fun v w' => v = putV (putF x) ∧ Keeps NoB w w' := by
  obtain ⟨hnum, hkind, hn, hs⟩ := hx
  obtain ⟨num, kind, n, s⟩ := x
  simp only at hnum hkind hn hs
  by_cases hbad : num < 1 ∨ 536870912 ≤ num ∨ (kind ≠ 0 ∧ n ≠ 0)
  · have hnone : putF ⟨num, kind, n, s⟩ = none := if_pos hbad
    have hc : num < 1 ∨ (1 ≤ num ∧ 536870912 ≤ num) ∨ (1 ≤ num ∧ num < 536870912 ∧ kind ≠ 0 ∧ (n : Int) ≠ 0) := by omega
    clear hbad
    rcases hc with hc | hc | hc <;> refine ca_of_body (args := [.agg #[.int .i64 num, .int .i64 kind, .int .u64 (n : Int), S s]]) Tryz.func58 rfl (by kernel_rfl) ?_
    all_goals
      (repeat first | (apply wr_move; exact rfl; with_reducible (conv => enter [6, 3]; whnf)) | (apply wr_assign; exact rfl; with_reducible (conv => enter [6, 3]; whnf)) | apply wr_end | apply wc_seq | apply wc_region | (apply wr_fieldAddr; iterate 2 exact rfl) | (apply wr_box; iterate 2 exact rfl) | (apply wr_load; (iterate 3 exact rfl); (focus repeat first | with_reducible assumption | exact heap_alloc_same _ _ | exact World.putObj_heap_same (by first | omega | (simp only [World.size_alloc, World.putObj_size, ne_eq]; omega)) | ((first | refine hAl ?_ ?_ | refine hPu ?_ ?_); focus first | omega | (simp only [World.size_alloc, World.putObj_size, ne_eq]; omega))); exact rfl; conv => enter [6, 3]; whnf) | (apply wr_cmp; (iterate 3 exact rfl); exact cmpT (by dsimp only [cmpP]; first | done | omega)) | (apply wr_cmp; (iterate 3 exact rfl); exact cmpF (by dsimp only [cmpN]; first | done | omega)) | (apply wr_pick (t := true); (iterate 2 exact rfl); with_reducible (conv => enter [6, 3]; whnf)) | (apply wr_pick (t := false); (iterate 2 exact rfl); with_reducible (conv => enter [6, 3]; whnf)) | (apply wc_true; exact rfl) | (apply wc_ret; try simp only [thenE, inBlockE, bodyQ]) | (apply wr_skip; exact rfl))
      refine leave2 (v1 := S []) (v2 := .bool false) rfl rfl rfl ⟨by rw [hnone]; rfl, (Keeps.refl _ _).alloc _⟩
  · have hok : 1 ≤ num ∧ num < 536870912 := by omega
    have hkn : kind = 0 ∨ (kind ≠ 0 ∧ (n : Int) = 0) := by omega
    have hput := put_cases (num := num) (kind := kind) (n := n) (s := s) hbad
    clear hbad
    obtain ⟨K, hK⟩ : ∃ K, K = IntKind.u64.wrap kind := ⟨_, rfl⟩
    have hKr : 0 ≤ K ∧ K ≤ 18446744073709551615 ∧ (0 ≤ kind → K = kind) := by
      refine ⟨?_, ?_, fun h => by rw [hK]; exact w_u64 (by omega)⟩
      · rw [hK, IntKind.wrap_u64]; omega
      · rw [hK, IntKind.wrap_u64]; omega
    obtain ⟨T, hT⟩ : ∃ T, T = IntKind.u64.wrap (num * 8 + K) := ⟨_, rfl⟩
    have hTr : 0 ≤ T ∧ T < 18446744073709551616 ∧ (0 ≤ kind → kind < 8 → T = num * 8 + kind) := by
      refine ⟨?_, ?_, fun h h' => by rw [hT, hKr.2.2 h]; exact w_u64 (by omega)⟩
      · rw [hT, IntKind.wrap_u64]; omega
      · rw [hT, IntKind.wrap_u64]; omega
    have hall : (kind = 0 ∧ (s = [] ∧ putF ⟨num, kind, n, s⟩ = some (varint T.toNat ++ varint n) ∨ ¬ s = [] ∧ putF ⟨num, kind, n, s⟩ = none)) ∨
        (kind = 1 ∧ (s.length = 8 ∧ putF ⟨num, kind, n, s⟩ = some (varint T.toNat ++ s) ∨ s.length ≠ 8 ∧ putF ⟨num, kind, n, s⟩ = none)) ∨
        (kind = 5 ∧ (s.length = 4 ∧ putF ⟨num, kind, n, s⟩ = some (varint T.toNat ++ s) ∨ s.length ≠ 4 ∧ putF ⟨num, kind, n, s⟩ = none)) ∨
        (kind = 2 ∧ putF ⟨num, kind, n, s⟩ = some (varint T.toNat ++ varint s.length ++ s)) ∨
        (kind ≠ 0 ∧ kind ≠ 1 ∧ kind ≠ 5 ∧ kind ≠ 2 ∧ putF ⟨num, kind, n, s⟩ = none) := by
      rw [hput]
      by_cases h0 : kind = 0
      · subst h0
        rw [hTr.2.2 (by omega) (by omega), Int.add_zero]
        by_cases e : s = []
        · exact .inl ⟨rfl, .inl ⟨e, by rw [if_pos rfl, if_pos e]⟩⟩
        · exact .inl ⟨rfl, .inr ⟨e, by rw [if_pos rfl, if_neg e]⟩⟩
      · rw [if_neg h0]
        by_cases h1 : kind = 1
        · subst h1
          rw [hTr.2.2 (by omega) (by omega)]
          by_cases e : s.length = 8
          · exact .inr (.inl ⟨rfl, .inl ⟨e, by rw [if_pos rfl, if_pos e]⟩⟩)
          · exact .inr (.inl ⟨rfl, .inr ⟨e, by rw [if_pos rfl, if_neg e]⟩⟩)
        · rw [if_neg h1]
          by_cases h5 : kind = 5
          · subst h5
            rw [hTr.2.2 (by omega) (by omega)]
            by_cases e : s.length = 4
            · exact .inr (.inr (.inl ⟨rfl, .inl ⟨e, by rw [if_pos rfl, if_pos e]⟩⟩))
            · exact .inr (.inr (.inl ⟨rfl, .inr ⟨e, by rw [if_pos rfl, if_neg e]⟩⟩))
          · rw [if_neg h5]
            by_cases h2 : kind = 2
            · subst h2
              rw [hTr.2.2 (by omega) (by omega)]
              exact .inr (.inr (.inr (.inl ⟨rfl, by rw [if_pos rfl]⟩)))
            · exact .inr (.inr (.inr (.inr ⟨h0, h1, h5, h2, by rw [if_neg h2]⟩)))
    clear hput
    have hl1 := varint_len T.toNat (by omega)
    have hl2 := varint_len n hn
    have hl3 := varint_len s.length (by omega)
    rcases hkn with hkn | hkn <;> rcases hall with ⟨hc, h | h⟩ | ⟨hc, h | h⟩ | ⟨hc, h | h⟩ | ⟨hc, h⟩ | ⟨h0, h1, h5, h2, h⟩ <;> (try (exfalso; omega))
    all_goals
      refine ca_of_body (args := [.agg #[.int .i64 num, .int .i64 kind, .int .u64 (n : Int), S s]]) Tryz.func58 rfl (by kernel_rfl) ?_
      have hK' := hK.symm
      have hT' := hT.symm
      clear hK hT
      (repeat first | (apply wr_move; exact rfl; with_reducible (conv => enter [6, 3]; whnf)) | (apply wr_assign; exact rfl; with_reducible (conv => enter [6, 3]; whnf)) | apply wr_end | apply wc_seq | apply wc_region | apply wc_skip | (apply wr_fieldAddr; iterate 2 exact rfl) | (apply wr_box; iterate 2 exact rfl) | (apply wr_load; (iterate 3 exact rfl); (focus repeat first | with_reducible assumption | exact heap_alloc_same _ _ | exact World.putObj_heap_same (by first | omega | (simp only [World.size_alloc, World.putObj_size, ne_eq]; omega)) | ((first | refine hAl ?_ ?_ | refine hPu ?_ ?_); focus first | omega | (simp only [World.size_alloc, World.putObj_size, ne_eq]; omega))); exact rfl; conv => enter [6, 3]; whnf) | (apply wr_cmp; (iterate 3 exact rfl); exact cmpT (by dsimp only [cmpP]; first | done | omega)) | (apply wr_cmp; (iterate 3 exact rfl); exact cmpF (by dsimp only [cmpN]; first | done | omega)) | (apply wr_pick (t := true); (iterate 2 exact rfl); with_reducible (conv => enter [6, 3]; whnf)) | (apply wr_pick (t := false); (iterate 2 exact rfl); with_reducible (conv => enter [6, 3]; whnf)) | (apply wr_add; (iterate 3 exact rfl); exact w_fit (by dsimp only [kIn]; first | done | omega)) | (apply wr_add; (iterate 3 exact rfl); (first | exact w_fit (by dsimp only [kIn]; first | done | omega) | with_reducible assumption | rfl)) | (apply wr_mul; (iterate 3 exact rfl); exact w_fit (by dsimp only [kIn]; first | done | omega)) | (apply wr_conv; (iterate 2 exact rfl); exact w_fit (by dsimp only [kIn]; first | done | omega)) | (apply wr_conv; (iterate 2 exact rfl); (first | exact w_fit (by dsimp only [kIn]; first | done | omega) | with_reducible assumption | rfl)) | (apply wc_false; exact rfl) | (apply wr_skip; exact rfl))
    all_goals first
      | (have hTe := hTr.2.2 (by omega) (by omega)
         rw [hTe] at hl1
         try rw [hTe] at h
         refine wr_call rfl (rvarint_ca' (num * 8 + kind) (by omega) (by omega) _) rfl ?_
         rintro v w2 ⟨rfl, hk2⟩
         have hb2 := hk2.heap (heap_alloc_same _ _) (fun h => h)
         have hk0 := ((Keeps.refl NoB w).alloc (.cells (Value.agg #[.int .i64 num, .int .i64 kind, .int .u64 (n : Int), S s]).cells 121)).trans hk2
         obtain ⟨hs0, h⟩ := h
         (repeat first | (apply wr_move; exact rfl; with_reducible (conv => enter [6, 3]; whnf)) | (apply wr_assign; exact rfl; with_reducible (conv => enter [6, 3]; whnf)) | apply wr_end | apply wc_seq | apply wc_region | apply wc_skip | apply wc_block | (apply wr_fieldAddr; iterate 2 exact rfl) | (apply wr_len_str; iterate 2 exact rfl) | (apply wr_load; (iterate 3 exact rfl); (focus repeat first | with_reducible assumption | exact heap_alloc_same _ _ | exact World.putObj_heap_same (by first | omega | (simp only [World.size_alloc, World.putObj_size, ne_eq]; omega)) | ((first | refine hAl ?_ ?_ | refine hPu ?_ ?_); focus first | omega | (simp only [World.size_alloc, World.putObj_size, ne_eq]; omega))); exact rfl; conv => enter [6, 3]; whnf) | (apply wr_cmp; (iterate 3 exact rfl); exact cmpT (by dsimp only [cmpP]; first | done | omega)) | (apply wr_cmp; (iterate 3 exact rfl); exact cmpF (by dsimp only [cmpN]; first | done | omega)) | (apply wr_pick (t := true); (iterate 2 exact rfl); with_reducible (conv => enter [6, 3]; whnf)) | (apply wr_pick (t := false); (iterate 2 exact rfl); with_reducible (conv => enter [6, 3]; whnf)) | (apply wr_cat; (iterate 3 exact rfl); (first | omega | (simp only [List.length_append]; omega))) | (apply wr_streqc; (iterate 3 exact rfl); (first | exact decide_eq_true (by with_reducible assumption) | exact decide_eq_false (by with_reducible assumption) | exact decide_eq_true rfl | exact rfl)) | (apply wc_true; exact rfl) | (apply wc_false; exact rfl) | (apply wc_ret; try simp only [thenE, inBlockE, bodyQ]) | (apply wr_skip; exact rfl))
         first
           | exact leave2 (v1 := S []) (v2 := .bool false) rfl rfl rfl ⟨by rw [h]; rfl, hk0⟩
           | exact leave2 (v1 := S (varint (num * 8 + kind).toNat ++ s)) (v2 := .bool true) rfl rfl rfl ⟨by rw [h]; rfl, hk0⟩
           | (refine wr_call rfl (rvarint_ca n hn _) rfl ?_
              rintro v w3 ⟨rfl, hk3⟩
              (repeat first | (apply wr_assign; exact rfl; with_reducible (conv => enter [6, 3]; whnf)) | apply wr_end | (apply wr_cat; (iterate 3 exact rfl); (first | omega | (simp only [List.length_append]; omega))) | (apply wc_ret; try simp only [thenE, inBlockE, bodyQ]))
              exact leave2 (v1 := S (varint (num * 8 + kind).toNat ++ varint n)) (v2 := .bool true) rfl rfl rfl ⟨by rw [h]; rfl, hk0.trans hk3⟩))
      | (have hTe := hTr.2.2 (by omega) (by omega)
         rw [hTe] at hl1
         try rw [hTe] at h
         refine wr_call rfl (rvarint_ca' (num * 8 + kind) (by omega) (by omega) _) rfl ?_
         rintro v w2 ⟨rfl, hk2⟩
         have hb2 := hk2.heap (heap_alloc_same _ _) (fun h => h)
         have hk0 := ((Keeps.refl NoB w).alloc (.cells (Value.agg #[.int .i64 num, .int .i64 kind, .int .u64 (n : Int), S s]).cells 121)).trans hk2
         (repeat first | (apply wr_move; exact rfl; with_reducible (conv => enter [6, 3]; whnf)) | (apply wr_assign; exact rfl; with_reducible (conv => enter [6, 3]; whnf)) | apply wr_end | apply wc_seq | apply wc_region | apply wc_block | (apply wr_fieldAddr; iterate 2 exact rfl) | (apply wr_load; (iterate 3 exact rfl); (focus repeat first | with_reducible assumption | exact heap_alloc_same _ _ | exact World.putObj_heap_same (by first | omega | (simp only [World.size_alloc, World.putObj_size, ne_eq]; omega)) | ((first | refine hAl ?_ ?_ | refine hPu ?_ ?_); focus first | omega | (simp only [World.size_alloc, World.putObj_size, ne_eq]; omega))); exact rfl; conv => enter [6, 3]; whnf) | (apply wr_cmp; (iterate 3 exact rfl); exact cmpT (by dsimp only [cmpP]; first | done | omega)) | (apply wr_cmp; (iterate 3 exact rfl); exact cmpF (by dsimp only [cmpN]; first | done | omega)) | (apply wr_pick (t := false); (iterate 2 exact rfl); with_reducible (conv => enter [6, 3]; whnf)) | (apply wc_true; exact rfl) | (apply wc_false; exact rfl) | (apply wr_skip; exact rfl))
         refine wc_drawS (l := _) (S := fun w' => Keeps NoB w2 w') (by kernel_rfl) (by kernel_rfl) (Keeps.refl NoB w2).drew ?_
         apply ch_step
         focus
           intro w' hS
           apply wr_move; exact rfl
           apply wr_nil
           exact ⟨rfl, hS⟩
         apply ch_step
         focus
           intro w' hS
           refine wr_fieldAddr rfl rfl ?_
           apply wr_nil
           exact ⟨rfl, hS⟩
         apply ch_step
         focus
           intro w' hS
           refine wr_load rfl rfl rfl (hS.heap hb2 (fun h => h)) rfl ?_
           apply wr_nil
           exact ⟨rfl, hS⟩
         apply ch_step
         focus
           intro w' hS
           apply wr_len_str; exact rfl; exact rfl
           apply wr_nil
           exact ⟨rfl, hS⟩
         apply ch_step
         focus
           intro w' hS
           refine wr_conv rfl rfl (w_u64 (by omega)) ?_
           apply wr_nil
           exact ⟨rfl, hS⟩
         apply ch_step
         focus
           intro w' hS
           refine wr_call (vs := [.int .u64 (s.length : Int)]) rfl (rvarint_ca s.length (by omega) _) rfl ?_
           rintro v w'' ⟨rfl, hk''⟩
           apply wr_nil
           exact ⟨rfl, hS.trans hk''⟩
         apply ch_step
         focus
           intro w' hS
           refine wr_cat rfl rfl rfl (by omega) ?_
           apply wr_nil
           exact ⟨rfl, hS⟩
         apply ch_step
         focus
           intro w' hS
           refine wr_fieldAddr rfl rfl ?_
           apply wr_nil
           exact ⟨rfl, hS⟩
         apply ch_step
         focus
           intro w' hS
           refine wr_load rfl rfl rfl (hS.heap hb2 (fun h => h)) rfl ?_
           apply wr_nil
           exact ⟨rfl, hS⟩
         apply ch_step
         focus
           intro w' hS
           refine wr_cat rfl rfl rfl (by simp only [List.length_append]; omega) ?_
           apply wr_nil
           exact ⟨rfl, hS⟩
         apply ch_step
         focus
           intro w' hS
           apply wr_assign; exact rfl
           apply wr_nil
           exact ⟨rfl, hS⟩
         apply ch_step
         focus
           intro w' hS
           apply wr_assign; exact rfl
           apply wr_nil
           exact ⟨rfl, hS⟩
         refine ch_nil ?_
         intro w3 hk3
         (repeat first | (apply wc_ret; try simp only [thenE, inBlockE, bodyQ]))
         exact leave2 (v1 := S (varint (num * 8 + kind).toNat ++ varint s.length ++ s)) (v2 := .bool true) rfl rfl rfl ⟨by rw [h]; rfl, hk0.trans hk3⟩)
      | (refine wr_call rfl (rvarint_ca' T hTr.1 hTr.2.1 _) rfl ?_
         rintro v w2 ⟨rfl, hk2⟩
         have hb2 := hk2.heap (heap_alloc_same _ _) (fun h => h)
         have hk0 := ((Keeps.refl NoB w).alloc (.cells (Value.agg #[.int .i64 num, .int .i64 kind, .int .u64 (n : Int), S s]).cells 121)).trans hk2
         (repeat first | (apply wr_move; exact rfl; with_reducible (conv => enter [6, 3]; whnf)) | (apply wr_assign; exact rfl; with_reducible (conv => enter [6, 3]; whnf)) | apply wr_end | apply wc_seq | apply wc_region | apply wc_skip | apply wc_block | (apply wr_fieldAddr; iterate 2 exact rfl) | (apply wr_load; (iterate 3 exact rfl); (focus repeat first | with_reducible assumption | exact heap_alloc_same _ _ | exact World.putObj_heap_same (by first | omega | (simp only [World.size_alloc, World.putObj_size, ne_eq]; omega)) | ((first | refine hAl ?_ ?_ | refine hPu ?_ ?_); focus first | omega | (simp only [World.size_alloc, World.putObj_size, ne_eq]; omega))); exact rfl; conv => enter [6, 3]; whnf) | (apply wr_cmp; (iterate 3 exact rfl); exact cmpF (by dsimp only [cmpN]; first | done | omega)) | (apply wr_pick (t := false); (iterate 2 exact rfl); with_reducible (conv => enter [6, 3]; whnf)) | (apply wc_false; exact rfl) | (apply wc_ret; try simp only [thenE, inBlockE, bodyQ]) | (apply wr_skip; exact rfl))
         exact leave2 (v1 := S []) (v2 := .bool false) rfl rfl rfl ⟨by rw [h]; rfl, hk0⟩)
set_option maxRecDepth 100000 in
set_option maxHeartbeats 1000000 in
theorem rnumber_ca (num : Int) (n : Nat) (h1 : -9223372036854775808 ≤ num ∧ num ≤ 9223372036854775807) (h2 : n < 18446744073709551616) (w : World) :
    Ca Tryz.prog 57 #[.int .i64 num, .int .u64 (n : Int)] w fun v w' => v = S (numberF num n) ∧ Keeps NoB w w' := by
  refine ca_of_body (args := [.int .i64 num, .int .u64 (n : Int)]) Tryz.func57 rfl (by kernel_rfl) ?_
  (repeat first | (apply wr_move; exact rfl; with_reducible (conv => enter [6, 3]; whnf)) | (apply wr_assign; exact rfl; with_reducible (conv => enter [6, 3]; whnf)) | apply wr_end | apply wc_seq | apply wc_region)
  refine wr_build (ps := [(0, .int .i64 num), (2, .int .u64 (n : Int))]) (cs := [.int .i64 num, .int .i64 0, .int .u64 (n : Int), S []]) rfl rfl rfl rfl ?_
  refine wr_call (vs := [(⟨num, 0, n, []⟩ : WF).v]) rfl (rput_ca ⟨num, 0, n, []⟩ ⟨h1, by simp, h2, by simp⟩ _) rfl ?_
  rintro v w1 ⟨rfl, hk1⟩
  obtain ⟨b, hb⟩ := putV_get0 (putF ⟨num, 0, n, []⟩)
  rw [hb]
  (repeat first | (apply wr_move; exact rfl; with_reducible (conv => enter [6, 3]; whnf)) | (apply wr_assign; exact rfl; with_reducible (conv => enter [6, 3]; whnf)) | apply wr_end | apply wc_seq | apply wc_region | (apply wr_extract; (iterate 3 exact rfl); with_reducible (conv => enter [6, 3]; whnf)) | (apply wc_ret; try simp only [thenE, inBlockE, bodyQ]))
  exact leave1 (v := S (numberF num n)) rfl rfl ⟨rfl, hk1⟩
set_option maxRecDepth 100000 in
set_option maxHeartbeats 1000000 in
theorem rtext_ca (num : Int) (s : List UInt8) (h1 : -9223372036854775808 ≤ num ∧ num ≤ 9223372036854775807) (h2 : s.length ≤ 4611686018427387904) (w : World) :
    Ca Tryz.prog 41 #[.int .i64 num, S s] w fun v w' => v = S (textF num s) ∧ Keeps NoB w w' := by
  refine ca_of_body (args := [.int .i64 num, S s]) Tryz.func41 rfl (by kernel_rfl) ?_
  (repeat first | (apply wr_move; exact rfl; with_reducible (conv => enter [6, 3]; whnf)) | (apply wr_assign; exact rfl; with_reducible (conv => enter [6, 3]; whnf)) | apply wr_end | apply wc_seq | apply wc_region)
  refine wr_build (ps := [(0, .int .i64 num), (1, .int .i64 2), (3, S s)]) (cs := [.int .i64 num, .int .i64 2, .int .u64 0, S s]) rfl rfl rfl rfl ?_
  refine wr_call (vs := [(⟨num, 2, 0, s⟩ : WF).v]) rfl (rput_ca ⟨num, 2, 0, s⟩ ⟨h1, by simp, by simp, h2⟩ _) rfl ?_
  rintro v w1 ⟨rfl, hk1⟩
  obtain ⟨b, hb⟩ := putV_get0 (putF ⟨num, 2, 0, s⟩)
  rw [hb]
  (repeat first | (apply wr_move; exact rfl; with_reducible (conv => enter [6, 3]; whnf)) | (apply wr_assign; exact rfl; with_reducible (conv => enter [6, 3]; whnf)) | apply wr_end | apply wc_seq | apply wc_region | (apply wr_extract; (iterate 3 exact rfl); with_reducible (conv => enter [6, 3]; whnf)) | (apply wc_ret; try simp only [thenE, inBlockE, bodyQ]))
  exact leave1 (v := S (textF num s)) rfl rfl ⟨rfl, hk1⟩
theorem dropWhile_nil {p : UInt8 → Bool} : ∀ {s : List UInt8}, s.dropWhile p = [] ↔ ∀ b ∈ s, p b = true
  | [] => by simp
  | a :: s => by
    rw [List.dropWhile_cons]
    cases h : p a with
    | true => simp only [if_true, List.mem_cons, forall_eq_or_imp, h, true_and]; exact dropWhile_nil
    | false => simp [h]
theorem dropWhile_split (p : UInt8 → Bool) : ∀ s : List UInt8, ∃ t, s = t ++ s.dropWhile p ∧ ∀ b ∈ t, p b = true
  | [] => ⟨[], rfl, by simp⟩
  | a :: s => by
    rw [List.dropWhile_cons]
    cases h : p a with
    | true =>
      obtain ⟨t, e, ht⟩ := dropWhile_split p s
      exact ⟨a :: t, by simp only [if_true, List.cons_append]; rw [← e], by simp [h]; exact ht⟩
    | false => exact ⟨[], rfl, by simp⟩
theorem trimN_nil (s : List UInt8) : trimN s = [] ↔ ∀ b ∈ s, nameSet.contains b = true := by
  unfold trimN
  rw [dropWhile_nil]
  unfold trimR
  obtain ⟨t, e, ht⟩ := dropWhile_split nameSet.contains s.reverse
  constructor
  · intro h b hb
    have hb2 : b ∈ s.reverse := by simpa using hb
    rw [e, List.mem_append] at hb2
    rcases hb2 with h1 | h1
    · exact ht b h1
    · exact h b (by simpa using h1)
  · intro h b hb
    have h1 : b ∈ s.reverse.dropWhile nameSet.contains := by simpa using hb
    have h2 : b ∈ s.reverse := by rw [e]; exact List.mem_append_right _ h1
    exact h b (by simpa using h2)
theorem nameOk_iff (s : List UInt8) : nameOk s ↔ 1 ≤ s.length ∧ s.length ≤ 64 ∧ ∀ b ∈ s, nameSet.contains b = true := by
  unfold nameOk
  rw [trimN_nil]
  have : s ≠ [] ↔ 1 ≤ s.length := by cases s <;> simp
  rw [this]
theorem inSet_iff (b : UInt8) : nameSet.contains b = true ↔ ((97 ≤ b.toNat ∧ b.toNat ≤ 122) ∨ (48 ≤ b.toNat ∧ b.toNat ≤ 57) ∨ b.toNat = 45 ∨ b.toNat = 46 ∨ b.toNat = 47) := by
  have h : ∀ n, n < 256 → (nameSet.contains (UInt8.ofNat n) = true ↔ ((97 ≤ n ∧ n ≤ 122) ∨ (48 ≤ n ∧ n ≤ 57) ∨ n = 45 ∨ n = 46 ∨ n = 47)) := by decide +kernel
  have hb := h b.toNat b.toNat_lt
  rwa [UInt8.ofNat_toNat] at hb
set_option maxRecDepth 100000 in
set_option maxHeartbeats 4000000 in
theorem refName_ca (s : List UInt8) (w : World) (hs : s.length ≤ 9223372036854775807) : Ca Tryz.prog 75 #[S s] w fun v w' => v = .bool (decide (nameOk s)) ∧ w' = w := by
  refine ca_of_body (args := [S s]) Tryz.func75 rfl (by kernel_rfl) ?_
  (repeat first | (apply wr_assign; exact rfl; with_reducible (conv => enter [6, 3]; whnf)) | apply wr_end | apply wc_seq | apply wc_region | apply wc_block)
  refine wc_loopL (α := Nat) (fun i => [(0, S s), (3, .int .i64 (i : Int))])
    (fun i ds w' => (ds = [] ∧ w' = w) ∧ i ≤ s.length ∧ ∀ (j : Nat) y, j < i → s[j]? = some y → nameSet.contains y = true) (fun i => s.length - i) 0 ⟨⟨rfl, rfl⟩, Nat.zero_le _, fun j y h => by omega⟩ ⟨rfl, rfl, trivial⟩ ?_
  rintro i ds f0 w2 ⟨⟨rfl, rfl⟩, hi, hall⟩
  by_cases hlt : i < s.length
  rotate_left
  · have hie : i = s.length := by omega
    have hset : ∀ b ∈ s, nameSet.contains b = true := fun b hb => by
      obtain ⟨j, hj⟩ := List.getElem?_of_mem hb
      exact hall j b (by have := (List.getElem?_eq_some_iff.1 hj).1; omega) hj
    by_cases h1 : 1 ≤ s.length
    · by_cases h64 : s.length ≤ 64
      · (repeat first | (apply wr_move; exact rfl; with_reducible (conv => enter [6, 3]; whnf)) | (apply wr_assign; exact rfl; with_reducible (conv => enter [6, 3]; whnf)) | apply wr_end | apply wc_seq | apply wc_region | (apply wr_len_str; iterate 2 exact rfl) | (apply wr_cmp; (iterate 3 exact rfl); exact cmpT (by dsimp only [cmpP]; first | done | omega)) | (apply wr_cmp; (iterate 3 exact rfl); exact cmpF (by dsimp only [cmpN]; first | done | omega)) | (apply wr_pick (t := true); (iterate 2 exact rfl); with_reducible (conv => enter [6, 3]; whnf)) | (apply wc_false; exact rfl) | (apply wc_exit; try simp only [thenE, inBlockE, bodyQ, ↓reduceIte, Nat.reduceEqDiff]) | (apply wc_ret; try simp only [thenE, inBlockE, bodyQ]))
        exact leave1 (v := .bool true) rfl rfl ⟨by rw [decide_eq_true ((nameOk_iff s).2 ⟨h1, h64, hset⟩)], by trivial⟩
      · (repeat first | (apply wr_move; exact rfl; with_reducible (conv => enter [6, 3]; whnf)) | (apply wr_assign; exact rfl; with_reducible (conv => enter [6, 3]; whnf)) | apply wr_end | apply wc_seq | apply wc_region | (apply wr_len_str; iterate 2 exact rfl) | (apply wr_cmp; (iterate 3 exact rfl); exact cmpT (by dsimp only [cmpP]; first | done | omega)) | (apply wr_cmp; (iterate 3 exact rfl); exact cmpF (by dsimp only [cmpN]; first | done | omega)) | (apply wr_pick (t := true); (iterate 2 exact rfl); with_reducible (conv => enter [6, 3]; whnf)) | (apply wc_false; exact rfl) | (apply wc_exit; try simp only [thenE, inBlockE, bodyQ, ↓reduceIte, Nat.reduceEqDiff]) | (apply wc_ret; try simp only [thenE, inBlockE, bodyQ]))
        exact leave1 (v := .bool false) rfl rfl ⟨by rw [decide_eq_false (fun h => h64 ((nameOk_iff s).1 h).2.1)], by trivial⟩
    · (repeat first | (apply wr_move; exact rfl; with_reducible (conv => enter [6, 3]; whnf)) | (apply wr_assign; exact rfl; with_reducible (conv => enter [6, 3]; whnf)) | apply wr_end | apply wc_seq | apply wc_region | (apply wr_len_str; iterate 2 exact rfl) | (apply wr_cmp; (iterate 3 exact rfl); exact cmpF (by dsimp only [cmpN]; first | done | omega)) | (apply wr_pick (t := false); (iterate 2 exact rfl); with_reducible (conv => enter [6, 3]; whnf)) | (apply wc_false; exact rfl) | (apply wc_exit; try simp only [thenE, inBlockE, bodyQ, ↓reduceIte, Nat.reduceEqDiff]) | (apply wc_ret; try simp only [thenE, inBlockE, bodyQ]) | (apply wr_skip; exact rfl))
      exact leave1 (v := .bool false) rfl rfl ⟨by rw [decide_eq_false (fun h => h1 ((nameOk_iff s).1 h).1)], by trivial⟩
  obtain ⟨b, hb⟩ : ∃ b, s[i]? = some b := ⟨s[i], by simp [hlt]⟩
  have hb8 := b.toNat_lt
  (repeat first | (apply wr_move; exact rfl; with_reducible (conv => enter [6, 3]; whnf)) | apply wr_end | apply wc_seq | apply wc_region | apply wc_skip | apply wc_block | (apply wr_len_str; iterate 2 exact rfl) | (apply wr_cmp; (iterate 3 exact rfl); exact cmpT (by dsimp only [cmpP]; first | done | omega)) | (apply wc_true; exact rfl))
  refine wr_index_str (i := (i : Int)) (b := b) rfl rfl rfl (by omega) (by simpa using hb) ?_
  by_cases c1 : 97 ≤ b.toNat
  · by_cases c2 : b.toNat ≤ 122
    · skip
      (repeat first | (apply wr_move; exact rfl; with_reducible (conv => enter [6, 3]; whnf)) | (apply wr_assign; exact rfl; with_reducible (conv => enter [6, 3]; whnf)) | apply wr_end | apply wc_seq | apply wc_region | apply wc_skip | (apply wr_not; iterate 2 exact rfl) | (apply wr_cmp; (iterate 3 exact rfl); exact cmpT (by dsimp only [cmpP]; first | done | omega)) | (apply wr_pick (t := true); (iterate 2 exact rfl); with_reducible (conv => enter [6, 3]; whnf)) | (apply wr_add; (iterate 3 exact rfl); exact w_fit (by dsimp only [kIn]; first | done | omega)) | (apply wc_false; exact rfl) | (apply wr_skip; exact rfl))
      exact ⟨i + 1, by omega, ⟨by trivial, hlt, fun j y hj hy => by
        by_cases hji : j = i
        · subst hji; rw [hb] at hy; cases hy; rw [inSet_iff]; omega
        · exact hall j y (by omega) hy⟩, rfl, by simp, trivial⟩
    · (repeat first | (apply wr_move; exact rfl; with_reducible (conv => enter [6, 3]; whnf)) | (apply wr_assign; exact rfl; with_reducible (conv => enter [6, 3]; whnf)) | apply wr_end | apply wc_seq | apply wc_region | (apply wr_not; iterate 2 exact rfl) | (apply wr_cmp; (iterate 3 exact rfl); exact cmpT (by dsimp only [cmpP]; first | done | omega)) | (apply wr_cmp; (iterate 3 exact rfl); exact cmpF (by dsimp only [cmpN]; first | done | omega)) | (apply wr_pick (t := true); (iterate 2 exact rfl); with_reducible (conv => enter [6, 3]; whnf)) | (apply wr_pick (t := false); (iterate 2 exact rfl); with_reducible (conv => enter [6, 3]; whnf)) | (apply wc_true; exact rfl) | (apply wc_ret; try simp only [thenE, inBlockE, bodyQ]))
      refine leave1 (v := .bool false) rfl rfl ⟨by rw [decide_eq_false]; intro h; have := (inSet_iff b).1 (((nameOk_iff s).1 h).2.2 b (List.mem_of_getElem? hb)); omega, by trivial⟩
  · by_cases c3 : 48 ≤ b.toNat
    · by_cases c4 : b.toNat ≤ 57
      · skip
        (repeat first | (apply wr_move; exact rfl; with_reducible (conv => enter [6, 3]; whnf)) | (apply wr_assign; exact rfl; with_reducible (conv => enter [6, 3]; whnf)) | apply wr_end | apply wc_seq | apply wc_region | apply wc_skip | (apply wr_not; iterate 2 exact rfl) | (apply wr_cmp; (iterate 3 exact rfl); exact cmpT (by dsimp only [cmpP]; first | done | omega)) | (apply wr_cmp; (iterate 3 exact rfl); exact cmpF (by dsimp only [cmpN]; first | done | omega)) | (apply wr_pick (t := true); (iterate 2 exact rfl); with_reducible (conv => enter [6, 3]; whnf)) | (apply wr_pick (t := false); (iterate 2 exact rfl); with_reducible (conv => enter [6, 3]; whnf)) | (apply wr_add; (iterate 3 exact rfl); exact w_fit (by dsimp only [kIn]; first | done | omega)) | (apply wc_false; exact rfl) | (apply wr_skip; exact rfl))
        exact ⟨i + 1, by omega, ⟨by trivial, hlt, fun j y hj hy => by
          by_cases hji : j = i
          · subst hji; rw [hb] at hy; cases hy; rw [inSet_iff]; omega
          · exact hall j y (by omega) hy⟩, rfl, by simp, trivial⟩
      · (repeat first | (apply wr_move; exact rfl; with_reducible (conv => enter [6, 3]; whnf)) | (apply wr_assign; exact rfl; with_reducible (conv => enter [6, 3]; whnf)) | apply wr_end | apply wc_seq | apply wc_region | (apply wr_not; iterate 2 exact rfl) | (apply wr_cmp; (iterate 3 exact rfl); exact cmpT (by dsimp only [cmpP]; first | done | omega)) | (apply wr_cmp; (iterate 3 exact rfl); exact cmpF (by dsimp only [cmpN]; first | done | omega)) | (apply wr_pick (t := true); (iterate 2 exact rfl); with_reducible (conv => enter [6, 3]; whnf)) | (apply wr_pick (t := false); (iterate 2 exact rfl); with_reducible (conv => enter [6, 3]; whnf)) | (apply wc_true; exact rfl) | (apply wc_ret; try simp only [thenE, inBlockE, bodyQ]) | (apply wr_skip; exact rfl))
        refine leave1 (v := .bool false) rfl rfl ⟨by rw [decide_eq_false]; intro h; have := (inSet_iff b).1 (((nameOk_iff s).1 h).2.2 b (List.mem_of_getElem? hb)); omega, by trivial⟩
    · by_cases c5 : b.toNat = 45
      · skip
        (repeat first | (apply wr_move; exact rfl; with_reducible (conv => enter [6, 3]; whnf)) | (apply wr_assign; exact rfl; with_reducible (conv => enter [6, 3]; whnf)) | apply wr_end | apply wc_seq | apply wc_region | apply wc_skip | (apply wr_not; iterate 2 exact rfl) | (apply wr_cmp; (iterate 3 exact rfl); exact cmpT (by dsimp only [cmpP]; first | done | omega)) | (apply wr_cmp; (iterate 3 exact rfl); exact cmpF (by dsimp only [cmpN]; first | done | omega)) | (apply wr_pick (t := true); (iterate 2 exact rfl); with_reducible (conv => enter [6, 3]; whnf)) | (apply wr_pick (t := false); (iterate 2 exact rfl); with_reducible (conv => enter [6, 3]; whnf)) | (apply wr_add; (iterate 3 exact rfl); exact w_fit (by dsimp only [kIn]; first | done | omega)) | (apply wc_false; exact rfl) | (apply wr_skip; exact rfl))
        exact ⟨i + 1, by omega, ⟨by trivial, hlt, fun j y hj hy => by
          by_cases hji : j = i
          · subst hji; rw [hb] at hy; cases hy; rw [inSet_iff]; omega
          · exact hall j y (by omega) hy⟩, rfl, by simp, trivial⟩
      · by_cases c6 : b.toNat = 46
        · skip
          (repeat first | (apply wr_move; exact rfl; with_reducible (conv => enter [6, 3]; whnf)) | (apply wr_assign; exact rfl; with_reducible (conv => enter [6, 3]; whnf)) | apply wr_end | apply wc_seq | apply wc_region | apply wc_skip | (apply wr_not; iterate 2 exact rfl) | (apply wr_cmp; (iterate 3 exact rfl); exact cmpT (by dsimp only [cmpP]; first | done | omega)) | (apply wr_cmp; (iterate 3 exact rfl); exact cmpF (by dsimp only [cmpN]; first | done | omega)) | (apply wr_pick (t := true); (iterate 2 exact rfl); with_reducible (conv => enter [6, 3]; whnf)) | (apply wr_pick (t := false); (iterate 2 exact rfl); with_reducible (conv => enter [6, 3]; whnf)) | (apply wr_add; (iterate 3 exact rfl); exact w_fit (by dsimp only [kIn]; first | done | omega)) | (apply wc_false; exact rfl) | (apply wr_skip; exact rfl))
          exact ⟨i + 1, by omega, ⟨by trivial, hlt, fun j y hj hy => by
            by_cases hji : j = i
            · subst hji; rw [hb] at hy; cases hy; rw [inSet_iff]; omega
            · exact hall j y (by omega) hy⟩, rfl, by simp, trivial⟩
        · by_cases c7 : b.toNat = 47
          · skip
            (repeat first | (apply wr_move; exact rfl; with_reducible (conv => enter [6, 3]; whnf)) | (apply wr_assign; exact rfl; with_reducible (conv => enter [6, 3]; whnf)) | apply wr_end | apply wc_seq | apply wc_region | apply wc_skip | (apply wr_not; iterate 2 exact rfl) | (apply wr_cmp; (iterate 3 exact rfl); exact cmpT (by dsimp only [cmpP]; first | done | omega)) | (apply wr_cmp; (iterate 3 exact rfl); exact cmpF (by dsimp only [cmpN]; first | done | omega)) | (apply wr_pick (t := false); (iterate 2 exact rfl); with_reducible (conv => enter [6, 3]; whnf)) | (apply wr_add; (iterate 3 exact rfl); exact w_fit (by dsimp only [kIn]; first | done | omega)) | (apply wc_false; exact rfl) | (apply wr_skip; exact rfl))
            exact ⟨i + 1, by omega, ⟨by trivial, hlt, fun j y hj hy => by
              by_cases hji : j = i
              · subst hji; rw [hb] at hy; cases hy; rw [inSet_iff]; omega
              · exact hall j y (by omega) hy⟩, rfl, by simp, trivial⟩
          · (repeat first | (apply wr_move; exact rfl; with_reducible (conv => enter [6, 3]; whnf)) | (apply wr_assign; exact rfl; with_reducible (conv => enter [6, 3]; whnf)) | apply wr_end | apply wc_seq | apply wc_region | (apply wr_not; iterate 2 exact rfl) | (apply wr_cmp; (iterate 3 exact rfl); exact cmpF (by dsimp only [cmpN]; first | done | omega)) | (apply wr_pick (t := false); (iterate 2 exact rfl); with_reducible (conv => enter [6, 3]; whnf)) | (apply wc_true; exact rfl) | (apply wc_ret; try simp only [thenE, inBlockE, bodyQ]) | (apply wr_skip; exact rfl))
            refine leave1 (v := .bool false) rfl rfl ⟨by rw [decide_eq_false]; intro h; have := (inSet_iff b).1 (((nameOk_iff s).1 h).2.2 b (List.mem_of_getElem? hb)); omega, by trivial⟩
end Go.Proofs.YtjaojihogmnjhaaGreatDoor
