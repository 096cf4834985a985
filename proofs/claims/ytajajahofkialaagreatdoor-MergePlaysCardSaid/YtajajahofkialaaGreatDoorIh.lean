/- noriaref03.Digits; norialaw14.refSet; Lean of no type. -/
import Derived.Test.YtajajahofkialaaGreatDoorIg
namespace Go.Proofs.YtajajahofkialaaGreatDoor
open Go Go.V Go.RowKit
set_option linter.unusedVariables false
set_option linter.unusedSimpArgs false

/- The head: $1 after New. -/
/- A set of a few: $1 slice, $2 bytes, $3 world, $4 stem, $5 SlR, $6 bytes small, $7 how many. -/
theorem dig_byte {n : Nat} (h : n < 10) : bytesV [UInt8.ofNat (48 + n)] = [.int .u8 (48 + (n : Int))] := by
  have : ((UInt8.ofNat (48 + n)).toNat : Int) = 48 + (n : Int) := by
    rw [UInt8.toNat_ofNat']
    omega
  show [Value.int .u8 ((UInt8.ofNat (48 + n)).toNat : Int)] = _
  rw [this]
theorem digs2 {n : Nat} (h : n < 100) : Lib.decDigits n = if n < 10 then [UInt8.ofNat (48 + n)] else [UInt8.ofNat (48 + n / 10), UInt8.ofNat (48 + n % 10)] := by
  split
  · rw [Lib.decDigits_one (by assumption)]
  · rw [Lib.decDigits_two (by assumption) h]
set_option maxRecDepth 100000 in
set_option maxHeartbeats 4000000 in
theorem digits_ca (n : Nat) (hn : n < 100) (w : World) : Ca Tryz.prog 52 #[.int .u64 (n : Int)] w fun v w' => v = S (Lib.decDigits n) ∧ Keeps NoB w w' := by
  refine ca_of_body (args := [.int .u64 (n : Int)]) Tryz.func52 rfl (by kernel_rfl) ?_
  rw [digs2 hn]
  (repeat first | (apply wr_move; exact rfl; with_reducible (conv => enter [6, 3]; whnf)) | (apply wr_assign; exact rfl; with_reducible (conv => enter [6, 3]; whnf)) | apply wr_end | apply wc_seq | apply wc_region)
  refine wr_remN (n := n) (m := 10) rfl rfl rfl (by decide) ?_
  refine wr_add (c := 48 + ((n % 10 : Nat) : Int)) rfl rfl rfl (w_u64 (by omega)) ?_
  refine wr_conv (c := 48 + ((n % 10 : Nat) : Int)) rfl rfl (w_fit (by dsimp only [kIn]; omega)) ?_
  refine wr_buildSlice (vs := [.int .u8 (48 + ((n % 10 : Nat) : Int))]) rfl rfl (by intro v hv; simp at hv; subst hv; rfl) rfl (by decide) (by decide) (by decide) ?_
  refine wr_bytes2str (n := 1) (l := [UInt8.ofNat (48 + n % 10)]) rfl rfl (slR_blk (cs := bytesV [UInt8.ofNat (48 + n % 10)]) (by rw [dig_byte (by omega)]; exact heap_alloc_same _ _) rfl) ?_
  refine wr_name ?_
  intro w1 hw1
  have hk1 : Keeps NoB w w1 := by rw [hw1]; exact (Keeps.refl NoB w).alloc _
  clear hw1
  (repeat first | (apply wr_assign; exact rfl; with_reducible (conv => enter [6, 3]; whnf)) | apply wr_end | apply wc_seq | apply wc_block)
  refine wc_loopL (α := Nat × List UInt8) (fun p => [(0, .int .u64 (p.1 : Int)), (3, S p.2)])
    (fun p ds w' => ds = [] ∧ (p = (n, [UInt8.ofNat (48 + n % 10)]) ∨ (9 < n ∧ p = (n / 10, [UInt8.ofNat (48 + n / 10), UInt8.ofNat (48 + n % 10)]))) ∧ Keeps NoB w w') (fun p => p.1) (n, [UInt8.ofNat (48 + n % 10)]) ⟨rfl, .inl rfl, hk1⟩ ⟨rfl, rfl, trivial⟩ ?_
  rintro ⟨m, l⟩ ds f0 w3 ⟨rfl, hb, hk3⟩
  dsimp only at hb ⊢
  rcases hb with hb | ⟨h9, hb⟩
  · obtain ⟨rfl, rfl⟩ := Prod.mk.inj hb
    by_cases h9 : 9 < m
    · (repeat first | (apply wr_move; exact rfl; with_reducible (conv => enter [6, 3]; whnf)) | apply wr_end | apply wc_seq | apply wc_region | apply wc_skip | apply wc_block | (apply wr_cmp; (iterate 3 exact rfl); exact cmpT (by dsimp only [cmpP]; first | done | omega)) | (apply wc_true; exact rfl))
      refine wr_quoN (n := m) (m := 10) rfl rfl rfl (by decide) (w_u64 (by omega)) ?_
      (repeat first | (apply wr_move; exact rfl; with_reducible (conv => enter [6, 3]; whnf)) | (apply wr_assign; exact rfl; with_reducible (conv => enter [6, 3]; whnf)) | apply wr_end | apply wc_region)
      refine wr_remN (n := (m / 10)) (m := 10) rfl rfl rfl (by decide) ?_
      refine wr_add (c := 48 + (((m / 10) % 10 : Nat) : Int)) rfl rfl rfl (w_u64 (by omega)) ?_
      refine wr_conv (c := 48 + (((m / 10) % 10 : Nat) : Int)) rfl rfl (w_fit (by dsimp only [kIn]; omega)) ?_
      refine wr_buildSlice (vs := [.int .u8 (48 + (((m / 10) % 10 : Nat) : Int))]) rfl rfl (by intro v hv; simp at hv; subst hv; rfl) rfl (by decide) (by decide) (by decide) ?_
      refine wr_bytes2str (n := 1) (l := [UInt8.ofNat (48 + (m / 10) % 10)]) rfl rfl (slR_blk (cs := bytesV [UInt8.ofNat (48 + (m / 10) % 10)]) (by rw [dig_byte (by omega)]; exact heap_alloc_same _ _) rfl) ?_
      refine wr_name ?_
      intro w4 hw4
      have hk4 : Keeps NoB w3 w4 := by rw [hw4]; exact (Keeps.refl NoB w3).alloc _
      clear hw4
      (repeat first | (apply wr_move; exact rfl; with_reducible (conv => enter [6, 3]; whnf)))
      refine wr_cat (a := [UInt8.ofNat (48 + m / 10 % 10)]) (b := [UInt8.ofNat (48 + m % 10)]) rfl rfl rfl (by simp only [List.length_cons, List.length_nil]; omega) ?_
      (repeat first | (apply wr_assign; exact rfl; with_reducible (conv => enter [6, 3]; whnf)) | (apply wr_nil; try simp only [thenE, inBlockE, bodyQ]))
      exact ⟨(m / 10, [UInt8.ofNat (48 + m / 10), UInt8.ofNat (48 + m % 10)]), by dsimp only; omega, ⟨by trivial, .inr ⟨h9, rfl⟩, hk3.trans hk4⟩, rfl, congrArg (fun k => S [UInt8.ofNat (48 + k), UInt8.ofNat (48 + m % 10)]) (show m / 10 % 10 = m / 10 by omega), trivial⟩
    · rw [if_pos (show m < 10 by omega)]
      (repeat first | (apply wr_move; exact rfl; with_reducible (conv => enter [6, 3]; whnf)) | (apply wr_assign; exact rfl; with_reducible (conv => enter [6, 3]; whnf)) | apply wr_end | apply wc_seq | apply wc_region | (apply wr_cmp; (iterate 3 exact rfl); exact cmpF (by dsimp only [cmpN]; first | done | omega)) | (apply wc_false; exact rfl) | (apply wc_exit; try simp only [thenE, inBlockE, bodyQ, ↓reduceIte, Nat.reduceEqDiff]) | (apply wc_ret; try simp only [thenE, inBlockE, bodyQ]))
      exact leave1 (v := S [UInt8.ofNat (48 + m % 10)]) rfl rfl ⟨by rw [show m % 10 = m by omega], hk3⟩
  · obtain ⟨rfl, rfl⟩ := Prod.mk.inj hb
    rw [if_neg (show ¬ n < 10 by omega)]
    have h10 : ¬ n / 10 > 9 := by omega
    (repeat first | (apply wr_move; exact rfl; with_reducible (conv => enter [6, 3]; whnf)) | (apply wr_assign; exact rfl; with_reducible (conv => enter [6, 3]; whnf)) | apply wr_end | apply wc_seq | apply wc_region | (apply wr_cmp; (iterate 3 exact rfl); exact cmpF (by dsimp only [cmpN]; first | done | omega)) | (apply wc_false; exact rfl) | (apply wc_exit; try simp only [thenE, inBlockE, bodyQ, ↓reduceIte, Nat.reduceEqDiff]) | (apply wc_ret; try simp only [thenE, inBlockE, bodyQ]))
    exact leave1 (v := S [UInt8.ofNat (48 + n / 10), UInt8.ofNat (48 + n % 10)]) rfl rfl ⟨rfl, hk3⟩
set_option maxRecDepth 100000 in
set_option maxHeartbeats 4000000 in
theorem refSet_ca {s : PS} {sv : Value} {w : World} (hs : SetR w s sv) : Ca Tryz.prog 16 #[sv] w fun v w' => SetR w' s v ∧ Keeps NoB w w' := by
  obtain ⟨nv, rfl, hnv⟩ := hs
  have hR : SetR w s (SetV s.1 nv) := ⟨nv, rfl, hnv⟩
  obtain ⟨na, nc, hne, _⟩ := slr_strs hnv
  subst hne
  obtain ⟨nv, hnve⟩ : ∃ v : Value, v = .slice na s.2.length nc := ⟨_, rfl⟩
  refine ca_of_body (args := [SetV s.1 (.slice na s.2.length nc)]) Tryz.func16 rfl (by kernel_rfl) ?_
  apply wc_seq
  apply wc_region
  refine wr_box (v := SetV s.1 (.slice na s.2.length nc)) rfl rfl ?_
  refine wr_name ?_
  intro w1 hww1
  obtain ⟨bw1, hbw1⟩ : ∃ b, b = (w).heap.size := ⟨_, rfl⟩
  have hkw1 : Keeps NoB w w1 := by rw [hww1]; exact (Keeps.refl NoB w).alloc _
  have hcw1 : (w1).heap[bw1]? = some (.cells ([.bool s.1, .slice na s.2.length nc]).toArray 41 (0, 0)) := by rw [hww1, hbw1]; exact heap_alloc_same _ _
  rw [← hbw1]
  clear hww1
  apply wr_alloc
  focus exact rfl
  refine wr_name ?_
  intro w2 hww2
  obtain ⟨bw2, hbw2⟩ : ∃ b, b = (w1).heap.size := ⟨_, rfl⟩
  have hkw2 : Keeps NoB w1 w2 := by rw [hww2]; exact (Keeps.refl NoB w1).alloc _
  have hcw2 : (w2).heap[bw2]? = some (.cells ([.bool false, nilV]).toArray 29 (0, 0)) := by rw [hww2, hbw2]; exact heap_alloc_same _ _
  rw [← hbw2]
  clear hww2
  have hc12 := hkw2.heap hcw1 (fun h => h)
  have hk2 := hkw1.trans hkw2
  have hR2 := hR.keep hk2
  have hz := hkw1.size
  (repeat first | apply wr_end | apply wc_seq | apply wc_region | (apply wr_fieldAddr; iterate 2 exact rfl) | (apply wr_load; (iterate 3 exact rfl); (focus repeat first | with_reducible assumption | exact heap_alloc_same _ _ | exact World.putObj_heap_same (by first | omega | (simp only [World.size_alloc, World.putObj_size, ne_eq]; omega)) | ((first | refine hAl ?_ ?_ | refine hPu ?_ ?_); focus first | omega | (simp only [World.size_alloc, World.putObj_size, ne_eq]; omega))); exact rfl; conv => enter [6, 3]; whnf))
  refine wr_build (ps := [(0, .bool s.1), (1, .slice na s.2.length nc)]) (cs := [.bool s.1, .slice na s.2.length nc]) rfl rfl rfl rfl ?_
  refine wr_storeAll (cs := [.bool s.1, .slice na s.2.length nc]) rfl rfl rfl (by intro u hu; simp at hu; rcases hu with rfl | rfl; rfl; exact hR.one.1) hcw2 rfl rfl ?_
  have hkp : Keeps (· = bw2) w2 (w2.putObj bw2 (.cells [.bool s.1, .slice na s.2.length nc].toArray 29 (0, 0))) := (Keeps.refl _ w2).put _ (fun _ => rfl)
  (repeat first | apply wr_end | (apply wc_ret; try simp only [thenE, inBlockE, bodyQ]))
  exact leaveN (vs := [SetV s.1 (.slice na s.2.length nc)]) (resv_cells (cs := [.bool s.1, .slice na s.2.length nc]) (e := 29) (fr := (0, 0)) rfl rfl (World.putObj_heap_same (lt_of_heap hcw2)) rfl resv_nil) ⟨hR2.put hkp hcw2 zne2, hk2.trans' hkp (fun i hi e => by omega)⟩
set_option maxRecDepth 100000 in
set_option maxHeartbeats 4000000 in
theorem leanZ_ca {w : World} {ab : Nat} {kk : Int} (hk : ¬ (1 ≤ kk ∧ kk ≤ 5)) :
    Ca Tryz.prog 22 #[.pointer (some ⟨ab, 0, none⟩), .int .i64 kk] w fun v w' => SetR w' noneP v ∧ Keeps NoB w w' := by
  refine ca_of_body (args := [.pointer (some ⟨ab, 0, none⟩), .int .i64 kk]) Tryz.func22 rfl (by kernel_rfl) ?_
  apply wc_seq
  apply wc_region
  apply wr_alloc
  focus exact rfl
  refine wr_name ?_
  intro w1 hww1
  obtain ⟨bw1, hbw1⟩ : ∃ b, b = (w).heap.size := ⟨_, rfl⟩
  have hkw1 : Keeps NoB w w1 := by rw [hww1]; exact (Keeps.refl NoB w).alloc _
  have hcw1 : (w1).heap[bw1]? = some (.cells ([.bool false, nilV]).toArray 41 (0, 0)) := by rw [hww1, hbw1]; exact heap_alloc_same _ _
  rw [← hbw1]
  clear hww1
  (repeat first | (apply wr_move; exact rfl; with_reducible (conv => enter [6, 3]; whnf)) | apply wr_end | apply wc_seq | apply wc_region)
  refine wr_call (vs := [.pointer (some ⟨ab, 0, none⟩), .int .i64 kk]) rfl (unionZ_ca hk) rfl ?_
  rintro v w2 ⟨rfl, hk2⟩
  (repeat first | (apply wr_alloc; exact rfl))
  refine wr_storeAll (cs := [.bool false, nilV]) rfl rfl rfl (zset_one) (heap_alloc_same _ _) rfl rfl ?_
  refine wr_name ?_
  intro w3 hww3
  obtain ⟨bw3, hbw3⟩ : ∃ b, b = (w2).heap.size := ⟨_, rfl⟩
  have hkw3 : Keeps NoB w2 w3 := by rw [hww3]; exact ((Keeps.refl NoB w2).alloc _).put _ (fun h => by omega)
  have hcw3 : (w3).heap[bw3]? = some (.cells ([.bool false, nilV]).toArray 41 (0, 0)) := by rw [hww3, hbw3]; exact World.putObj_heap_same (by simp)
  rw [← hbw3]
  clear hww3
  have hk13 := hk2.trans hkw3
  have hc13 := hk13.heap hcw1 (fun h => h)
  (repeat first | apply wr_end | apply wc_seq | apply wc_region | (apply wr_fieldAddr; iterate 2 exact rfl) | (apply wr_not; iterate 2 exact rfl) | (apply wr_load; (iterate 3 exact rfl); (focus repeat first | with_reducible assumption | exact heap_alloc_same _ _ | exact World.putObj_heap_same (by first | omega | (simp only [World.size_alloc, World.putObj_size, ne_eq]; omega)) | ((first | refine hAl ?_ ?_ | refine hPu ?_ ?_); focus first | omega | (simp only [World.size_alloc, World.putObj_size, ne_eq]; omega))); exact rfl; conv => enter [6, 3]; whnf) | (apply wc_true; exact rfl))
  refine wr_loadAll (cs := [.bool false, nilV]) rfl rfl rfl hcw3 rfl ?_
  refine wr_storeAll (cs := [.bool false, nilV]) rfl rfl rfl zset_one hc13 rfl rfl ?_
  have hkp : Keeps (· = bw1) w3 (w3.putObj bw1 (.cells [.bool false, nilV].toArray 41 (0, 0))) := (Keeps.refl _ w3).put _ (fun _ => rfl)
  (repeat first | apply wr_end | (apply wc_ret; try simp only [thenE, inBlockE, bodyQ]))
  exact leaveN (vs := [SetV false nilV]) (resv_cells (cs := [.bool false, nilV]) (e := 41) (fr := (0, 0)) rfl rfl (World.putObj_heap_same (lt_of_heap hc13)) rfl resv_nil) ⟨zset_R _, (hkw1.trans hk13).trans' hkp (fun i hi e => by omega)⟩
end Go.Proofs.YtajajahofkialaaGreatDoor
