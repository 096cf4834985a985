/- Plain laws of the bytes, second text: what is cut within a field of bytes is short. No program stands here. -/
import Derived.Test.YthlbgeonobicbaaDoorPa
namespace Go.Proofs.YthlbgeonobicbaaDoor
open Go Go.V
set_option linter.unusedVariables false

theorem rv_cut : ∀ (m n k acc j : Nat), n ≤ m → n * 128 ^ k < 18446744073709551616 → k ≤ 9 → j < (varint n).length → rv k acc ((varint n).take j) = none := by
  intro m
  induction m with
  | zero =>
    intro n k acc j hn hb hk hj
    obtain rfl : n = 0 := by omega
    rw [varint_lt (by omega)] at hj ⊢
    simp at hj; subst hj; rfl
  | succ m ih =>
    intro n k acc j hn hb hk hj
    cases j with
    | zero => rfl
    | succ j =>
      by_cases hlt : n < 128
      · rw [varint_lt hlt] at hj; simp at hj
      · have hp := pow128 k
        have hk9 : k ≠ 9 := fun e => by subst e; omega
        have hb' : (UInt8.ofNat (n % 128 + 128)).toNat = n % 128 + 128 := by simp; omega
        rw [varint_ge (by omega)] at hj ⊢
        rw [List.take_succ_cons, rv_cons (by omega), hb', if_neg (by rintro ⟨e, h⟩; exact hk9 e), if_neg (by omega)]
        have hdm : n = n / 128 * 128 + n % 128 := by omega
        have e1 : n * 128 ^ k = n / 128 * 128 ^ (k + 1) + n % 128 * 128 ^ k := by
          rw [Nat.pow_succ, Nat.mul_comm (128 ^ k) 128, ← Nat.mul_assoc, ← Nat.add_mul, ← hdm]
        exact ih (n / 128) (k + 1) _ j (by omega) (by omega) (by omega) (by simpa using hj)
theorem readVarint_cut {n j : Nat} (h : n < 18446744073709551616) (hj : j < (varint n).length) : readVarint ((varint n).take j) = none :=
  rv_cut n n 0 0 j (Nat.le_refl _) (by simpa using h) (by omega) hj
theorem take_cut {num : Int} {s : List UInt8} {j : Nat} (h : 1 ≤ num ∧ num < 536870912) (hn : s.length < 18446744073709551616) (hj : j < (textF num s).length) : takeF ((textF num s).take j) = .short := by
  obtain ⟨k, rfl⟩ := Int.eq_ofNat_of_zero_le (a := num) (by omega)
  have e : ((k : Int) * 8 + 2).toNat = k * 8 + 2 := by omega
  rw [textF_eq h, e, List.append_assoc] at hj ⊢
  have hk : k * 8 + 2 < 18446744073709551616 := by omega
  by_cases h1 : j < (varint (k * 8 + 2)).length
  · rw [List.take_append_of_le_length (by omega)]
    unfold takeF
    rw [readVarint_cut hk h1]
  · obtain ⟨i, rfl⟩ : ∃ i, j = (varint (k * 8 + 2)).length + i := ⟨j - (varint (k * 8 + 2)).length, by omega⟩
    rw [List.take_append, List.take_of_length_le (by omega), Nat.add_sub_cancel_left]
    rw [List.length_append, List.length_append] at hj
    unfold takeF
    rw [readVarint_varint hk]
    dsimp only
    rw [if_neg (by omega), List.drop_left, if_neg (by omega), if_pos (by omega)]
    by_cases h2 : i < (varint s.length).length
    · rw [List.take_append_of_le_length (by omega), readVarint_cut hn h2]
    · obtain ⟨x, rfl⟩ : ∃ x, i = (varint s.length).length + x := ⟨i - (varint s.length).length, by omega⟩
      rw [List.take_append, List.take_of_length_le (by omega), Nat.add_sub_cancel_left, readVarint_varint hn]
      dsimp only
      rw [List.drop_left, if_pos (by rw [List.length_take]; omega)]
theorem textF_len {num : Int} {s : List UInt8} (hn : s.length < 18446744073709551616) : (textF num s).length ≤ 20 + s.length := by
  by_cases h : 1 ≤ num ∧ num < 536870912
  · rw [textF_eq h, List.length_append, List.length_append]
    have h1 := varint_len (num * 8 + 2).toNat (by omega)
    have h2 := varint_len s.length hn
    omega
  · rw [textF_no h]; simp
theorem back_parse {k : Nat} {a b : Nat} {s : List UInt8} (hk : 1 ≤ k ∧ k ≤ 65536) (ha : a < 18446744073709551616) (hb : b < 18446744073709551616) (hs : s.length < 18446744073709551616) (r : List UInt8) :
    parseF (numberF k a ++ textF k s ++ numberF ((k + 1 : Nat) : Int) b ++ r) = (parseF r).map ([⟨k, 0, a, []⟩, ⟨k, 2, 0, s⟩, ⟨((k + 1 : Nat) : Int), 0, b, []⟩] ++ ·) := by
  rw [List.append_assoc, List.append_assoc, parse_number (by omega) ha, parse_text (by omega) hs, parse_number (by omega) hb]
  cases parseF r <;> rfl
end Go.Proofs.YthlbgeonobicbaaDoor
