/- wire.ReadVarint, noriaref01.Varint, noriaref01.ReadVarint: what they do. -/
import Derived.Test.YthlbgeonobicbaaDoorWa
namespace Go.Proofs.YthlbgeonobicbaaDoor
open Go Go.V Go.RowKit
set_option linter.unusedVariables false
set_option linter.unusedSimpArgs false

/-- The number that bytes begin with, and of how many bytes, the first k of them read. -/
def rv (k acc : Nat) : List UInt8 → Option (Nat × Nat)
  | [] => none
  | b :: l => if 10 ≤ k then none else if k = 9 ∧ 1 < b.toNat then none else
    if b.toNat < 128 then some (acc + b.toNat * 128 ^ k, k + 1) else rv (k + 1) (acc + (b.toNat - 128) * 128 ^ k) l
abbrev readVarint (s : List UInt8) : Option (Nat × Nat) := rv 0 0 s
def rvV (o : Option (Nat × Nat)) : Value := match o with
  | some (n, k) => .tuple #[.int .u64 (n : Int), .int .i64 (k : Int), .bool true]
  | none => .tuple #[.int .u64 0, .int .i64 0, .bool false]
theorem rv_cons {k acc : Nat} {b : UInt8} {l : List UInt8} (hk : k < 10) : rv k acc (b :: l) = if k = 9 ∧ 1 < b.toNat then none else
    if b.toNat < 128 then some (acc + b.toNat * 128 ^ k, k + 1) else rv (k + 1) (acc + (b.toNat - 128) * 128 ^ k) l := by
  simp only [rv]; rw [if_neg (by omega)]
theorem rv_ten {acc : Nat} : ∀ l, rv 10 acc l = none
  | [] => rfl
  | b :: l => by simp [rv]
theorem low7 (b : UInt8) : bits .andNot .u8 (b.toNat : Int) 128 = ((b.toNat % 128 : Nat) : Int) := by
  have hb := b.toNat_lt
  rw [show ((128 : Int)) = ((128 : Nat) : Int) from rfl, u8_andNot_nat _ _ (by omega) (by omega)]
  congr 1
  exact nat_mask7 _
theorem pow7 (k : Nat) : 2 ^ (7 * k) = 128 ^ k := by rw [Nat.pow_mul]
theorem chunk_fits {k c : Nat} (hk : k ≤ 9) (hc : c < 128) (h9 : k = 9 → c ≤ 1) : c * 128 ^ k + 128 ^ k ≤ 18446744073709551616 := by
  rcases Nat.lt_or_ge k 9 with h | h
  · have : 128 ^ k ≤ 128 ^ 8 := Nat.pow_le_pow_right (by decide) (by omega)
    have : c * 128 ^ k + 128 ^ k ≤ 128 * 128 ^ 8 := by
      calc c * 128 ^ k + 128 ^ k = (c + 1) * 128 ^ k := by rw [Nat.add_mul, Nat.one_mul]
        _ ≤ 128 * 128 ^ 8 := Nat.mul_le_mul (by omega) this
    omega
  · obtain rfl : k = 9 := by omega
    have := h9 rfl
    have : c = 0 ∨ c = 1 := by omega
    rcases this with rfl | rfl <;> decide
theorem or_chunk {k acc c : Nat} (ha : acc < 128 ^ k) (hf : c * 128 ^ k + 128 ^ k ≤ 18446744073709551616) : bits .or .u64 (acc : Int) ((c * 128 ^ k : Nat) : Int) = ((acc + c * 128 ^ k : Nat) : Int) := by
  rw [u64_or_nat _ _ (by omega) (by omega)]
  congr 1
  rw [Nat.or_comm, ← pow7, nat_join (7 * k) (c * 2 ^ (7 * k)) acc (Nat.mul_mod_left _ _) (by rw [pow7]; exact ha), Nat.add_comm]



set_option maxRecDepth 100000 in
set_option maxHeartbeats 1000000 in
theorem readVarint_ca (s : List UInt8) (w : World) :
    Ca Tryd.prog 96 #[S s] w fun v w' => v = rvV (readVarint s) ∧ w' = w := by
  refine ca_of_body (args := [S s]) Tryd.func96 rfl (by kernel_rfl) ?_
  (repeat first | (apply wr_move; exact rfl; with_reducible (conv => enter [6, 3]; whnf)) | (apply wr_assign; exact rfl; with_reducible (conv => enter [6, 3]; whnf)) | apply wr_end | apply wc_seq | apply wc_region | (apply wr_len_str; iterate 2 exact rfl))
  refine wr_min (c := ((Nat.min 10 s.length : Nat) : Int)) rfl rfl rfl (by rw [show Nat.min 10 s.length = min 10 s.length from rfl, Nat.min_def]; split <;> split <;> omega) ?_
  (repeat first | (apply wr_move; exact rfl; with_reducible (conv => enter [6, 3]; whnf)) | apply wr_end | apply wc_block)
  refine wc_loopL (α := Nat × Nat) (fun x => [(0, S s), (2, .int .u64 (x.2 : Int)), (9, .int .i64 ((Nat.min 10 s.length : Nat) : Int)), (10, .int .i64 (x.1 : Int))])
    (fun x ds w' => ds = [] ∧ w' = w ∧ x.1 ≤ Nat.min 10 s.length ∧ x.2 < 128 ^ x.1 ∧ rv x.1 x.2 (s.drop x.1) = readVarint s) (fun x => 10 - x.1) (0, 0) ⟨rfl, rfl, Nat.zero_le _, by decide, rfl⟩ ⟨rfl, rfl, rfl, rfl, trivial⟩ ?_
  rintro ⟨k, acc⟩ ds f0 w1 ⟨rfl, rfl, hk, hacc, hrv⟩
  simp only at hk hacc hrv
  dsimp only
  have hmin : Nat.min 10 s.length ≤ 10 ∧ Nat.min 10 s.length ≤ s.length := ⟨Nat.min_le_left _ _, Nat.min_le_right _ _⟩
  by_cases hlt : k < Nat.min 10 s.length
  · obtain ⟨b, hb⟩ : ∃ b, s[k]? = some b := ⟨s[k]'(by omega), List.getElem?_eq_getElem _⟩
    have hdrop : s.drop k = b :: s.drop (k + 1) := by
      rw [List.drop_eq_getElem_cons (by omega)]; congr 1
      exact Option.some.inj ((List.getElem?_eq_getElem (by omega)).symm.trans hb)
    rw [hdrop, rv_cons (by omega)] at hrv
    have hbl := b.toNat_lt
    have h7 := low7 b
    (repeat first | (apply wr_move; exact rfl; with_reducible (conv => enter [6, 3]; whnf)) | (apply wr_assign; exact rfl; with_reducible (conv => enter [6, 3]; whnf)) | apply wr_end | apply wc_seq | apply wc_region | apply wc_skip | apply wc_block | (apply wr_cmp; (iterate 3 exact rfl); exact cmpT (by dsimp only [cmpP]; first | done | omega)) | (apply wc_true; exact rfl))
    refine wr_index_str (b := b) rfl rfl rfl (by omega) (by simpa using hb) ?_
    by_cases hbad : k = 9 ∧ 1 < b.toNat
    · rw [if_pos hbad] at hrv
      obtain ⟨h9, hb1⟩ := hbad
      (repeat first | (apply wr_move; exact rfl; with_reducible (conv => enter [6, 3]; whnf)) | (apply wr_assign; exact rfl; with_reducible (conv => enter [6, 3]; whnf)) | apply wr_end | apply wc_seq | apply wc_region | (apply wr_cmp; (iterate 3 exact rfl); exact cmpT (by dsimp only [cmpP]; first | done | omega)) | (apply wr_pick (t := true); (iterate 2 exact rfl); with_reducible (conv => enter [6, 3]; whnf)) | (apply wc_true; exact rfl) | (apply wc_exit; try simp only [thenE, inBlockE, bodyQ, ↓reduceIte, Nat.reduceEqDiff]) | (apply wc_ret; try simp only [thenE, inBlockE, bodyQ]))
      refine leave3 (v1 := .int .u64 0) (v2 := .int .i64 0) (v3 := .bool false) rfl rfl rfl rfl ⟨by rw [← hrv]; rfl, rfl⟩
    · rw [if_neg hbad] at hrv
      have hc9 : k = 9 → b.toNat % 128 ≤ 1 := fun e => by have : ¬ 1 < b.toNat := fun h => hbad ⟨e, h⟩; omega
      have hfit := chunk_fits (k := k) (c := b.toNat % 128) (by omega) (by omega) hc9
      have hor := or_chunk hacc hfit
      have hsh : IntKind.u64.wrap ((b.toNat % 128 * 2 ^ (7 * k) : Nat) : Int) = ((b.toNat % 128 * 128 ^ k : Nat) : Int) := by
        rw [pow7]; exact w_u64 (by omega)
      have hcv : IntKind.u64.wrap ((b.toNat % 128 : Nat) : Int) = ((b.toNat % 128 : Nat) : Int) := w_u64 (by omega)
      have h9' : k = 9 ∧ b.toNat ≤ 1 ∨ k ≠ 9 := by omega
      have fin : ∀ (hl : b.toNat < 128), rvV (readVarint s) = .tuple #[.int .u64 ((acc + b.toNat % 128 * 128 ^ k : Nat) : Int), .int .i64 ((k : Int) + 1), .bool true] := fun hl => by
        rw [if_pos hl] at hrv
        rw [← hrv, Nat.mod_eq_of_lt hl]; rfl
      have nxt : ∀ (hl : ¬ b.toNat < 128), rv (k + 1) (acc + b.toNat % 128 * 128 ^ k) (s.drop (k + 1)) = readVarint s := fun hl => by
        rw [if_neg hl] at hrv
        rw [← hrv, show b.toNat % 128 = b.toNat - 128 by omega]
      have hnx : acc + b.toNat % 128 * 128 ^ k < 128 ^ (k + 1) := by
        have : (b.toNat % 128 + 1) * 128 ^ k ≤ 128 * 128 ^ k := Nat.mul_le_mul_right _ (by omega)
        rw [Nat.pow_succ, Nat.mul_comm _ 128]
        rw [Nat.add_mul, Nat.one_mul] at this; omega
      clear hrv hc9 hfit
      rcases h9' with ⟨h9, hb1⟩ | h9
      all_goals
        (repeat first | (apply wr_move; exact rfl; with_reducible (conv => enter [6, 3]; whnf)) | (apply wr_assign; exact rfl; with_reducible (conv => enter [6, 3]; whnf)) | apply wr_end | apply wc_seq | apply wc_region | apply wc_skip | (apply wr_cmp; (iterate 3 exact rfl); exact cmpT (by dsimp only [cmpP]; first | done | omega)) | (apply wr_cmp; (iterate 3 exact rfl); exact cmpF (by dsimp only [cmpN]; first | done | omega)) | (apply wr_pick (t := true); (iterate 2 exact rfl); with_reducible (conv => enter [6, 3]; whnf)) | (apply wr_pick (t := false); (iterate 2 exact rfl); with_reducible (conv => enter [6, 3]; whnf)) | (apply wr_mul; (iterate 3 exact rfl); exact w_fit (by dsimp only [kIn]; first | done | omega)) | (apply wr_conv; (iterate 2 exact rfl); exact w_fit (by dsimp only [kIn]; first | done | omega)) | (apply wr_bits; exact rfl; (focus (simp; done)); (iterate 2 exact rfl); assumption) | (apply wc_false; exact rfl) | (apply wr_skip; exact rfl))
        refine wr_shlN (7 * k) rfl rfl (by simp; rfl) (by simp [IntKind.bits]; omega) hsh ?_
        by_cases hl : b.toNat < 128
        · (repeat first | (apply wr_move; exact rfl; with_reducible (conv => enter [6, 3]; whnf)) | (apply wr_assign; exact rfl; with_reducible (conv => enter [6, 3]; whnf)) | apply wr_end | apply wc_seq | apply wc_region | (apply wr_cmp; (iterate 3 exact rfl); exact cmpT (by dsimp only [cmpP]; first | done | omega)) | (apply wr_add; (iterate 3 exact rfl); exact w_fit (by dsimp only [kIn]; first | done | omega)) | (apply wr_bits; exact rfl; (focus (simp; done)); (iterate 2 exact rfl); assumption) | (apply wc_true; exact rfl) | (apply wc_ret; try simp only [thenE, inBlockE, bodyQ]))
          refine leave3 rfl rfl rfl rfl ⟨(fin hl).symm, rfl⟩
        · first
            | (exfalso; omega)
            | ((repeat first | (apply wr_move; exact rfl; with_reducible (conv => enter [6, 3]; whnf)) | (apply wr_assign; exact rfl; with_reducible (conv => enter [6, 3]; whnf)) | apply wr_end | apply wc_seq | apply wc_region | apply wc_skip | (apply wr_cmp; (iterate 3 exact rfl); exact cmpF (by dsimp only [cmpN]; first | done | omega)) | (apply wr_add; (iterate 3 exact rfl); exact w_fit (by dsimp only [kIn]; first | done | omega)) | (apply wr_bits; exact rfl; (focus (simp; done)); (iterate 2 exact rfl); assumption) | (apply wc_false; exact rfl))
               refine ⟨(k + 1, acc + b.toNat % 128 * 128 ^ k), by simp only; omega, ⟨rfl, rfl, by simp only; omega, hnx, nxt hl⟩, rfl, rfl, rfl, rfl, trivial⟩)
  · have hkm : k = Nat.min 10 s.length := by omega
    have hnone : readVarint s = none := by
      rw [← hrv]
      rcases Nat.lt_or_ge k 10 with h | h
      · have : s.drop k = [] := List.drop_eq_nil_of_le (by rw [hkm]; exact Nat.le_of_eq (by rw [hkm] at h; show s.length = min 10 s.length; rw [show Nat.min 10 s.length = min 10 s.length from rfl] at h; omega))
        rw [this]; rfl
      · obtain rfl : k = 10 := by omega
        exact rv_ten _
    (repeat first | (apply wr_assign; exact rfl; with_reducible (conv => enter [6, 3]; whnf)) | apply wr_end | apply wc_seq | apply wc_region | (apply wr_cmp; (iterate 3 exact rfl); exact cmpF (by dsimp only [cmpN]; first | done | omega)) | (apply wc_false; exact rfl) | (apply wc_exit; try simp only [thenE, inBlockE, bodyQ, ↓reduceIte, Nat.reduceEqDiff]) | (apply wc_ret; try simp only [thenE, inBlockE, bodyQ]))
    refine leave3 (v1 := .int .u64 0) (v2 := .int .i64 0) (v3 := .bool false) rfl rfl rfl rfl ⟨by rw [hnone]; rfl, rfl⟩
end Go.Proofs.YthlbgeonobicbaaDoor
