/- noriaref01.Varint, ReadVarint: what they do. -/
import Derived.Test.YthlbgeonobicbaaDoorWh
namespace Go.Proofs.YthlbgeonobicbaaDoor
open Go Go.V Go.RowKit
set_option linter.unusedVariables false
set_option linter.unusedSimpArgs false

set_option maxRecDepth 100000 in
set_option maxHeartbeats 1000000 in
theorem rvarint_ca (n : Nat) (hn : n < 18446744073709551616) (w : World) :
    Ca Tryd.prog 65 #[.int .u64 (n : Int)] w fun v w' => v = S (varint n) ∧ Keeps NoB w w' := by
  refine ca_of_body (args := [.int .u64 (n : Int)]) Tryd.func65 rfl (by kernel_rfl) ?_
  (repeat first | (apply wr_assign; exact rfl; with_reducible (conv => enter [6, 3]; whnf)) | apply wr_end | apply wc_seq | apply wc_region | apply wc_block)
  refine wc_loopL (α := Nat × Value × List UInt8) (fun x => [(0, .int .u64 (x.1 : Int)), (3, x.2.1)])
    (fun x ds w' => ds = [] ∧ x.1 < 18446744073709551616 ∧ x.2.2.length ≤ 10 ∧ x.2.2 ++ varint x.1 = varint n ∧ w'.ownsRow w.heap.size 5 1 x.2.1 x.2.2.length (bytesV x.2.2) ∧ Keeps NoB w w') (fun x => x.1) (n, .slice none 0 0, []) ⟨rfl, hn, by simp, rfl, ⟨rfl, .inl ⟨rfl, rfl⟩⟩, Keeps.refl _ _⟩ ⟨rfl, rfl, trivial⟩ ?_
  rintro ⟨m, v2, pre⟩ ds f0 w2 ⟨rfl, hm, hpl, hpre, ho2, hk2⟩
  simp only at hm hpl hpre ho2
  dsimp only
  have hvl := varint_le 9 n (by omega)
  have hle : pre.length + (varint m).length ≤ 10 := by rw [← List.length_append, hpre]; exact hvl
  have hpos : 1 ≤ (varint m).length := by unfold varint; split <;> simp
  have hs2 := hk2.size
  by_cases hlt : m < 128
  · (repeat first | (apply wr_move; exact rfl; with_reducible (conv => enter [6, 3]; whnf)) | apply wr_end | apply wc_seq | apply wc_region | (apply wr_cmp; (iterate 3 exact rfl); exact cmpF (by dsimp only [cmpN]; first | done | omega)) | (apply wr_conv; (iterate 2 exact rfl); exact w_fit (by dsimp only [kIn]; first | done | omega)) | (apply wc_false; exact rfl) | (apply wc_exit; try simp only [thenE, inBlockE, bodyQ, ↓reduceIte, Nat.reduceEqDiff]))
    refine wr_buildSlice (vs := [.int .u8 (m : Int)]) rfl rfl (by intro v hv; simp at hv; subst hv; rfl) rfl (by decide) (by decide) (by decide) ?_
    refine wr_append (v := v2) (n := pre.length) (m := 1) (news := [.int .u8 (m : Int)]) rfl rfl (ho2.alloc _) rfl (heap_alloc_same _ _) rfl (by intro v hv; simp at hv; subst hv; rfl) rfl (by decide) (by omega) (by omega) (by simp; omega) ?_
    intro v3 w3 ho3 hk3 _
    have hb : bytesV pre ++ [.int .u8 (m : Int)] = bytesV (pre ++ [UInt8.ofNat m]) := by rw [bytesV_snoc]; simp; omega
    rw [hb] at ho3
    refine wr_bytes2str rfl rfl (SlR.of_own ho3) ?_
    (repeat first | (apply wr_assign; exact rfl; with_reducible (conv => enter [6, 3]; whnf)) | apply wr_end | (apply wc_ret; try simp only [thenE, inBlockE, bodyQ]))
    refine leave1 (v := S (pre ++ [UInt8.ofNat m])) rfl rfl ⟨?_, ?_⟩
    · rw [← hpre, varint_lt hlt]
    · exact (hk2.alloc _).trans' hk3 fun i hi h => absurd (ho2.lt i h).1 (by omega)
  · (repeat first | (apply wr_move; exact rfl; with_reducible (conv => enter [6, 3]; whnf)) | apply wr_end | apply wc_seq | apply wc_region | apply wc_skip | apply wc_block | (apply wr_cmp; (iterate 3 exact rfl); exact cmpT (by dsimp only [cmpP]; first | done | omega)) | (apply wc_true; exact rfl))
    refine wr_remN (n := m) (m := 128) rfl rfl rfl (by decide) ?_
    (repeat first | (apply wr_add; (iterate 3 exact rfl); exact w_fit (by dsimp only [kIn]; first | done | omega)) | (apply wr_conv; (iterate 2 exact rfl); exact w_fit (by dsimp only [kIn]; first | done | omega)))
    have hb8 : ((m % 128 : Nat) : Int) + 128 = ((UInt8.ofNat (m % 128 + 128)).toNat : Int) := by simp; omega
    rw [hb8]
    refine wr_buildSlice (vs := [.int .u8 ((UInt8.ofNat (m % 128 + 128)).toNat : Int)]) rfl rfl (by intro v hv; simp at hv; subst hv; rfl) rfl (by decide) (by decide) (by decide) ?_
    refine wr_append (v := v2) (n := pre.length) (m := 1) (news := [.int .u8 ((UInt8.ofNat (m % 128 + 128)).toNat : Int)]) rfl rfl (ho2.alloc _) rfl (heap_alloc_same _ _) rfl (by intro v hv; simp at hv; subst hv; rfl) rfl (by decide) (by omega) (by omega) (by simp; omega) ?_
    intro v3 w3 ho3 hk3 _
    rw [← bytesV_snoc] at ho3
    (repeat first | (apply wr_move; exact rfl; with_reducible (conv => enter [6, 3]; whnf)) | (apply wr_assign; exact rfl; with_reducible (conv => enter [6, 3]; whnf)) | apply wr_end | apply wc_region)
    refine wr_quoN (n := m) (m := 128) rfl rfl rfl (by decide) (w_u64 (by omega)) ?_
    (repeat first | (apply wr_assign; exact rfl; with_reducible (conv => enter [6, 3]; whnf)) | (apply wr_nil; try simp only [thenE, inBlockE, bodyQ]))
    rw [varint_ge (by omega)] at hpre hle
    refine ⟨(m / 128, v3, pre ++ [UInt8.ofNat (m % 128 + 128)]), by simp only; omega, ⟨by trivial, by simp only; omega, ?_, ?_, ?_, ?_⟩, rfl, rfl, trivial⟩
    · simp at hle ⊢; omega
    · simpa using hpre
    · simpa using ho3
    · exact (hk2.alloc _).trans' hk3 fun i hi h => absurd (ho2.lt i h).1 (by omega)
set_option maxRecDepth 100000 in
set_option maxHeartbeats 1000000 in
theorem rreadVarint_ca (s : List UInt8) (hs : s.length ≤ 9223372036854775807) (w : World) :
    Ca Tryd.prog 58 #[S s] w fun v w' => v = rvV (readVarint s) ∧ w' = w := by
  refine ca_of_body (args := [S s]) Tryd.func58 rfl (by kernel_rfl) ?_
  (repeat first | (apply wr_assign; exact rfl; with_reducible (conv => enter [6, 3]; whnf)) | apply wr_end | apply wc_seq | apply wc_region | apply wc_block)
  refine wc_loopL (α := Nat × Nat) (fun x => [(0, S s), (5, .int .u64 (x.2 : Int)), (6, .int .i64 (x.1 : Int))])
    (fun x ds w' => ds = [] ∧ w' = w ∧ x.1 ≤ 10 ∧ x.1 ≤ s.length ∧ x.2 < 128 ^ x.1 ∧ rv x.1 x.2 (s.drop x.1) = readVarint s) (fun x => 10 - x.1) (0, 0) ⟨rfl, rfl, Nat.zero_le _, Nat.zero_le _, by decide, rfl⟩ ⟨rfl, rfl, rfl, trivial⟩ ?_
  rintro ⟨k, acc⟩ ds f0 w1 ⟨rfl, rfl, hk, hks, hacc, hrv⟩
  simp only at hk hks hacc hrv
  dsimp only
  by_cases hlt : k < s.length ∧ k < 10
  · obtain ⟨hl1, hl2⟩ := hlt
    obtain ⟨b, hb⟩ : ∃ b, s[k]? = some b := ⟨s[k]'(by omega), List.getElem?_eq_getElem _⟩
    have hdrop : s.drop k = b :: s.drop (k + 1) := by
      rw [List.drop_eq_getElem_cons (by omega)]; congr 1
      exact Option.some.inj ((List.getElem?_eq_getElem (by omega)).symm.trans hb)
    rw [hdrop, rv_cons (by omega)] at hrv
    have hbl := b.toNat_lt
    (repeat first | (apply wr_move; exact rfl; with_reducible (conv => enter [6, 3]; whnf)) | apply wr_end | apply wc_seq | apply wc_region | apply wc_skip | apply wc_block | (apply wr_len_str; iterate 2 exact rfl) | (apply wr_cmp; (iterate 3 exact rfl); exact cmpT (by dsimp only [cmpP]; first | done | omega)) | (apply wr_pick (t := true); (iterate 2 exact rfl); with_reducible (conv => enter [6, 3]; whnf)) | (apply wc_true; exact rfl))
    refine wr_index_str (b := b) rfl rfl rfl (by omega) (by simpa using hb) ?_
    by_cases hbad : k = 9 ∧ 1 < b.toNat
    · rw [if_pos hbad] at hrv
      obtain ⟨h9, hb1⟩ := hbad
      (repeat first | (apply wr_move; exact rfl; with_reducible (conv => enter [6, 3]; whnf)) | (apply wr_assign; exact rfl; with_reducible (conv => enter [6, 3]; whnf)) | apply wr_end | apply wc_seq | apply wc_region | (apply wr_cmp; (iterate 3 exact rfl); exact cmpT (by dsimp only [cmpP]; first | done | omega)) | (apply wr_pick (t := true); (iterate 2 exact rfl); with_reducible (conv => enter [6, 3]; whnf)) | (apply wr_conv; (iterate 2 exact rfl); exact w_fit (by dsimp only [kIn]; first | done | omega)) | (apply wc_true; exact rfl) | (apply wc_ret; try simp only [thenE, inBlockE, bodyQ]))
      refine leave3 (v1 := .int .u64 0) (v2 := .int .i64 0) (v3 := .bool false) rfl rfl rfl rfl ⟨by rw [← hrv]; rfl, rfl⟩
    · rw [if_neg hbad] at hrv
      have hc9 : k = 9 → b.toNat % 128 ≤ 1 := fun e => by have : ¬ 1 < b.toNat := fun h => hbad ⟨e, h⟩; omega
      have hfit := chunk_fits (k := k) (c := b.toNat % 128) (by omega) (by omega) hc9
      have hor := or_chunk hacc hfit
      have hsh : IntKind.u64.wrap ((b.toNat % 128 * 2 ^ (7 * k) : Nat) : Int) = ((b.toNat % 128 * 128 ^ k : Nat) : Int) := by
        rw [pow7]; exact w_u64 (by omega)
      have h9' : k = 9 ∧ b.toNat ≤ 1 ∨ k ≠ 9 := by omega
      have fin : ∀ (hl : b.toNat < 128), rvV (readVarint s) = .tuple #[.int .u64 ((acc + b.toNat % 128 * 128 ^ k : Nat) : Int), .int .i64 ((k : Int) + 1), .bool true] := fun hl => by
        rw [if_pos hl] at hrv
        rw [← hrv, Nat.mod_eq_of_lt hl]; rfl
      have nxt : ∀ (hl : ¬ b.toNat < 128), rv (k + 1) (acc + b.toNat % 128 * 128 ^ k) (s.drop (k + 1)) = readVarint s := fun hl => by
        rw [if_neg hl] at hrv
        rw [← hrv, show b.toNat % 128 = b.toNat - 128 by omega]
      have hnx : acc + b.toNat % 128 * 128 ^ k < 128 ^ (k + 1) := by
        have : (b.toNat % 128 + 1) * 128 ^ k ≤ 128 * 128 ^ k := Nat.mul_le_mul_right _ (by omega)
        rw [Nat.pow_succ, Nat.mul_comm _ 128]
        rw [Nat.add_mul, Nat.one_mul] at this; omega
      clear hrv hc9 hfit
      rcases h9' with ⟨h9, hb1⟩ | h9
      all_goals
        (repeat first | (apply wr_move; exact rfl; with_reducible (conv => enter [6, 3]; whnf)) | (apply wr_assign; exact rfl; with_reducible (conv => enter [6, 3]; whnf)) | apply wr_end | apply wc_seq | apply wc_region | apply wc_skip | (apply wr_cmp; (iterate 3 exact rfl); exact cmpT (by dsimp only [cmpP]; first | done | omega)) | (apply wr_cmp; (iterate 3 exact rfl); exact cmpF (by dsimp only [cmpN]; first | done | omega)) | (apply wr_pick (t := true); (iterate 2 exact rfl); with_reducible (conv => enter [6, 3]; whnf)) | (apply wr_pick (t := false); (iterate 2 exact rfl); with_reducible (conv => enter [6, 3]; whnf)) | (apply wr_conv; (iterate 2 exact rfl); exact w_fit (by dsimp only [kIn]; first | done | omega)) | (apply wc_false; exact rfl) | (apply wr_skip; exact rfl))
        refine wr_remN (n := b.toNat) (m := 128) rfl rfl rfl (by decide) ?_
        (repeat first | (apply wr_move; exact rfl; with_reducible (conv => enter [6, 3]; whnf)) | (apply wr_mul; (iterate 3 exact rfl); exact w_fit (by dsimp only [kIn]; first | done | omega)))
        refine wr_shlN (7 * k) rfl rfl (by simp; rfl) (by simp [IntKind.bits]; omega) hsh ?_
        by_cases hl : b.toNat < 128
        · (repeat first | (apply wr_move; exact rfl; with_reducible (conv => enter [6, 3]; whnf)) | (apply wr_assign; exact rfl; with_reducible (conv => enter [6, 3]; whnf)) | apply wr_end | apply wc_seq | apply wc_region | (apply wr_cmp; (iterate 3 exact rfl); exact cmpT (by dsimp only [cmpP]; first | done | omega)) | (apply wr_add; (iterate 3 exact rfl); exact w_fit (by dsimp only [kIn]; first | done | omega)) | (apply wr_bits; exact rfl; (focus (simp; done)); (iterate 2 exact rfl); assumption) | (apply wc_true; exact rfl) | (apply wc_ret; try simp only [thenE, inBlockE, bodyQ]))
          refine leave3 rfl rfl rfl rfl ⟨(fin hl).symm, rfl⟩
        · first
            | (exfalso; omega)
            | ((repeat first | (apply wr_move; exact rfl; with_reducible (conv => enter [6, 3]; whnf)) | (apply wr_assign; exact rfl; with_reducible (conv => enter [6, 3]; whnf)) | apply wr_end | apply wc_seq | apply wc_region | apply wc_skip | (apply wr_cmp; (iterate 3 exact rfl); exact cmpF (by dsimp only [cmpN]; first | done | omega)) | (apply wr_add; (iterate 3 exact rfl); exact w_fit (by dsimp only [kIn]; first | done | omega)) | (apply wr_bits; exact rfl; (focus (simp; done)); (iterate 2 exact rfl); assumption) | (apply wc_false; exact rfl))
               refine ⟨(k + 1, acc + b.toNat % 128 * 128 ^ k), by simp only; omega, ⟨rfl, rfl, by simp only; omega, by simp only; omega, hnx, nxt hl⟩, rfl, rfl, rfl, trivial⟩)
  · have hnone : readVarint s = none := by
      rw [← hrv]
      rcases Nat.lt_or_ge k 10 with h | h
      · have : s.drop k = [] := List.drop_eq_nil_of_le (by omega)
        rw [this]; rfl
      · obtain rfl : k = 10 := by omega
        exact rv_ten _
    have hc : (¬ k < s.length) ∨ (k < s.length ∧ ¬ k < 10) := by omega
    clear hlt
    rcases hc with hc | hc
    all_goals
      (repeat first | (apply wr_move; exact rfl; with_reducible (conv => enter [6, 3]; whnf)) | (apply wr_assign; exact rfl; with_reducible (conv => enter [6, 3]; whnf)) | apply wr_end | apply wc_seq | apply wc_region | (apply wr_len_str; iterate 2 exact rfl) | (apply wr_cmp; (iterate 3 exact rfl); exact cmpT (by dsimp only [cmpP]; first | done | omega)) | (apply wr_cmp; (iterate 3 exact rfl); exact cmpF (by dsimp only [cmpN]; first | done | omega)) | (apply wr_pick (t := true); (iterate 2 exact rfl); with_reducible (conv => enter [6, 3]; whnf)) | (apply wr_pick (t := false); (iterate 2 exact rfl); with_reducible (conv => enter [6, 3]; whnf)) | (apply wc_false; exact rfl) | (apply wc_exit; try simp only [thenE, inBlockE, bodyQ, ↓reduceIte, Nat.reduceEqDiff]) | (apply wc_ret; try simp only [thenE, inBlockE, bodyQ]) | (apply wr_skip; exact rfl))
      refine leave3 (v1 := .int .u64 0) (v2 := .int .i64 0) (v3 := .bool false) rfl rfl rfl rfl ⟨by rw [hnone]; rfl, rfl⟩
end Go.Proofs.YthlbgeonobicbaaDoor
