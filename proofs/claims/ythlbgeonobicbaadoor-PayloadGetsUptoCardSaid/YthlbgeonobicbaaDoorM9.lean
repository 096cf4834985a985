/- Plain laws of the bytes: what was put is taken; what is parsed is parsed with more behind it. No program stands here. -/
import Derived.Test.YthlbgeonobicbaaDoorM8
namespace Go.Proofs.YthlbgeonobicbaaDoor
open Go Go.V
set_option linter.unusedVariables false

theorem numberF_eq {num : Int} {n : Nat} (h : 1 ≤ num ∧ num < 536870912) : numberF num n = varint (num * 8).toNat ++ varint n := by
  unfold numberF
  rw [put_cases (by omega)]; rfl
theorem textF_eq {num : Int} {s : List UInt8} (h : 1 ≤ num ∧ num < 536870912) : textF num s = varint (num * 8 + 2).toNat ++ varint s.length ++ s := by
  unfold textF
  rw [put_cases (by omega), if_neg (by decide), if_neg (by decide), if_neg (by decide), if_pos rfl]; rfl
theorem numberF_no {num : Int} {n : Nat} (h : ¬ (1 ≤ num ∧ num < 536870912)) : numberF num n = [] := by
  unfold numberF putF; rw [if_pos (by simp only; omega)]; rfl
theorem textF_no {num : Int} {s : List UInt8} (h : ¬ (1 ≤ num ∧ num < 536870912)) : textF num s = [] := by
  unfold textF putF; rw [if_pos (by simp only; omega)]; rfl
theorem pow128 (k : Nat) : 1 ≤ 128 ^ k := Nat.pos_of_ne_zero (by simp)
theorem rv_varint : ∀ (m n k acc : Nat) (r : List UInt8), n ≤ m → n * 128 ^ k < 18446744073709551616 → k ≤ 9 → rv k acc (varint n ++ r) = some (acc + n * 128 ^ k, k + (varint n).length) := by
  intro m
  induction m with
  | zero =>
    intro n k acc r hn hb hk
    obtain rfl : n = 0 := by omega
    rw [varint_lt (by omega), List.singleton_append, rv_cons (by omega), if_neg (by simp), if_pos (by simp)]
    simp
  | succ m ih =>
    intro n k acc r hn hb hk
    have hp := pow128 k
    have h9 : k = 9 → n ≤ 1 := fun e => by subst e; omega
    by_cases hlt : n < 128
    · have hb' : (UInt8.ofNat n).toNat = n := by simp; omega
      rw [varint_lt hlt, List.singleton_append, rv_cons (by omega), hb', if_neg (by rintro ⟨e, h⟩; have := h9 e; omega), if_pos hlt]
      simp
    · have hb' : (UInt8.ofNat (n % 128 + 128)).toNat = n % 128 + 128 := by simp; omega
      have hk9 : k ≠ 9 := fun e => by have := h9 e; omega
      rw [varint_ge (by omega), List.cons_append, rv_cons (by omega), hb', if_neg (by rintro ⟨e, h⟩; exact hk9 e), if_neg (by omega)]
      have hdm : n = n / 128 * 128 + n % 128 := by omega
      have e1 : n * 128 ^ k = n / 128 * 128 ^ (k + 1) + n % 128 * 128 ^ k := by
        rw [Nat.pow_succ, Nat.mul_comm (128 ^ k) 128, ← Nat.mul_assoc, ← Nat.add_mul, ← hdm]
      rw [ih (n / 128) (k + 1) _ r (by omega) (by omega) (by omega)]
      simp only [List.length_cons, Option.some.injEq, Prod.mk.injEq]
      refine ⟨?_, by omega⟩
      rw [show n % 128 + 128 - 128 = n % 128 by omega]
      omega
theorem readVarint_varint {n : Nat} (h : n < 18446744073709551616) (r : List UInt8) : readVarint (varint n ++ r) = some (n, (varint n).length) := by
  have := rv_varint n n 0 0 r (Nat.le_refl _) (by simpa using h) (by omega)
  simpa using this
theorem rv_append : ∀ (s t : List UInt8) (k acc : Nat) (x : Nat × Nat), rv k acc s = some x → rv k acc (s ++ t) = some x
  | [], t, k, acc, x, h => by simp [rv] at h
  | b :: s, t, k, acc, x, h => by
    simp only [List.cons_append, rv] at h ⊢
    by_cases h1 : 10 ≤ k
    · rw [if_pos h1] at h; cases h
    · rw [if_neg h1] at h ⊢
      by_cases h2 : k = 9 ∧ 1 < b.toNat
      · rw [if_pos h2] at h; cases h
      · rw [if_neg h2] at h ⊢
        by_cases h3 : b.toNat < 128
        · rw [if_pos h3] at h ⊢; exact h
        · rw [if_neg h3] at h ⊢; exact rv_append s t _ _ x h
theorem readVarint_append {s : List UInt8} {x : Nat × Nat} (h : readVarint s = some x) (t : List UInt8) : readVarint (s ++ t) = some x := rv_append s t 0 0 x h
theorem takeF_append {s : List UInt8} {f : WF} {r : List UInt8} (h : takeF s = .ok f r) (t : List UInt8) : takeF (s ++ t) = .ok f (r ++ t) := by
  unfold takeF at h ⊢
  cases hrv : readVarint s with
  | none => rw [hrv] at h; cases h
  | some nk =>
    obtain ⟨tag, n⟩ := nk
    obtain ⟨_, _, hn⟩ := readVarint_bounds hrv
    rw [hrv] at h
    rw [readVarint_append hrv t]
    dsimp only at h ⊢
    rw [List.drop_append_of_le_length hn]
    generalize s.drop n = s1 at h ⊢
    split at h
    · cases h
    · rename_i hbad
      rw [if_neg hbad]
      split at h
      · rename_i h0
        rw [if_pos h0]
        cases hrv2 : readVarint s1 with
        | none => rw [hrv2] at h; cases h
        | some vm =>
          obtain ⟨v, m⟩ := vm
          obtain ⟨_, _, hm⟩ := readVarint_bounds hrv2
          rw [hrv2] at h
          rw [readVarint_append hrv2 t]
          simp only [TR.ok.injEq] at h ⊢
          rw [List.drop_append_of_le_length hm]
          exact ⟨h.1, by rw [h.2]⟩
      · rename_i h0
        rw [if_neg h0]
        split at h
        · rename_i h2
          rw [if_pos h2]
          cases hrv2 : readVarint s1 with
          | none => rw [hrv2] at h; cases h
          | some vm =>
            obtain ⟨v, m⟩ := vm
            obtain ⟨_, _, hm⟩ := readVarint_bounds hrv2
            rw [hrv2] at h
            rw [readVarint_append hrv2 t]
            dsimp only at h ⊢
            rw [List.drop_append_of_le_length hm]
            generalize s1.drop m = s2 at h ⊢
            split at h
            · cases h
            · rename_i hv
              rw [if_neg (by rw [List.length_append]; omega)]
              simp only [TR.ok.injEq] at h ⊢
              rw [List.take_append_of_le_length (by omega), List.drop_append_of_le_length (by omega)]
              exact ⟨h.1, by rw [h.2]⟩
        · rename_i h2
          rw [if_neg h2]
          split at h
          · rename_i h1
            rw [if_pos h1]
            split at h
            · cases h
            · rename_i hv
              rw [if_neg (by rw [List.length_append]; omega)]
              simp only [TR.ok.injEq] at h ⊢
              rw [List.take_append_of_le_length (by omega), List.drop_append_of_le_length (by omega)]
              exact ⟨h.1, by rw [h.2]⟩
          · rename_i h1
            rw [if_neg h1]
            split at h
            · rename_i h5
              rw [if_pos h5]
              split at h
              · cases h
              · rename_i hv
                rw [if_neg (by rw [List.length_append]; omega)]
                simp only [TR.ok.injEq] at h ⊢
                rw [List.take_append_of_le_length (by omega), List.drop_append_of_le_length (by omega)]
                exact ⟨h.1, by rw [h.2]⟩
            · cases h
theorem parseF_append : ∀ (n : Nat) (s t : List UInt8) (l : List WF), s.length ≤ n → parseF s = some l → parseF (s ++ t) = (parseF t).map (l ++ ·)
  | 0, s, t, l, hn, h => by
    have : s = [] := List.eq_nil_of_length_eq_zero (by omega)
    subst this
    rw [parseF_nil] at h; cases h
    rw [List.nil_append]; cases parseF t <;> simp
  | n + 1, s, t, l, hn, h => by
    by_cases hs : s = []
    · subst hs; rw [parseF_nil] at h; cases h
      rw [List.nil_append]; cases parseF t <;> simp
    · cases hT : takeF s with
      | ok f r =>
        rw [parseF_ok hs hT] at h
        have hlt := takeF_lt hT
        cases hp : parseF r with
        | none => rw [hp] at h; cases h
        | some l' =>
          rw [hp] at h; simp at h; subst h
          rw [parseF_ok (by simp [hs]) (takeF_append hT t), parseF_append n r t l' (by omega) hp]
          cases parseF t <;> simp
      | short => rw [parseF_no hs (.inl hT)] at h; cases h
      | wrong => rw [parseF_no hs (.inr hT)] at h; cases h
theorem parse_append {s : List UInt8} {l : List WF} (h : parseF s = some l) (t : List UInt8) : parseF (s ++ t) = (parseF t).map (l ++ ·) := parseF_append s.length s t l (Nat.le_refl _) h
theorem varint_ne {n : Nat} : varint n ≠ [] := by unfold varint; split <;> simp
theorem takeF_number {num : Int} {n : Nat} (h : 1 ≤ num ∧ num < 536870912) (hn : n < 18446744073709551616) (r : List UInt8) : takeF (numberF num n ++ r) = .ok ⟨num, 0, n, []⟩ r := by
  obtain ⟨k, rfl⟩ := Int.eq_ofNat_of_zero_le (a := num) (by omega)
  have e : ((k : Int) * 8).toNat = k * 8 := by omega
  rw [numberF_eq h, e, List.append_assoc]
  unfold takeF
  rw [readVarint_varint (by omega)]
  dsimp only
  rw [if_neg (by omega), List.drop_left, if_pos (by omega), readVarint_varint hn]
  simp
theorem takeF_text {num : Int} {s : List UInt8} (h : 1 ≤ num ∧ num < 536870912) (hn : s.length < 18446744073709551616) (r : List UInt8) : takeF (textF num s ++ r) = .ok ⟨num, 2, 0, s⟩ r := by
  obtain ⟨k, rfl⟩ := Int.eq_ofNat_of_zero_le (a := num) (by omega)
  have e : ((k : Int) * 8 + 2).toNat = k * 8 + 2 := by omega
  rw [textF_eq h, e, List.append_assoc, List.append_assoc]
  unfold takeF
  rw [readVarint_varint (by omega)]
  dsimp only
  rw [if_neg (by omega), List.drop_left, if_neg (by omega), if_pos (by omega), readVarint_varint hn]
  dsimp only
  rw [List.drop_left, if_neg (by simp), List.take_left, List.drop_left]
  simp; omega
theorem numberF_ne {num : Int} {n : Nat} (h : 1 ≤ num ∧ num < 536870912) : numberF num n ≠ [] := by
  rw [numberF_eq h]; simp [varint_ne]
theorem textF_ne {num : Int} {s : List UInt8} (h : 1 ≤ num ∧ num < 536870912) : textF num s ≠ [] := by
  rw [textF_eq h]; simp [varint_ne]
theorem parse_number {num : Int} {n : Nat} (h : 1 ≤ num ∧ num < 536870912) (hn : n < 18446744073709551616) (r : List UInt8) : parseF (numberF num n ++ r) = (parseF r).map (⟨num, 0, n, []⟩ :: ·) :=
  parseF_ok (by simp [numberF_ne h]) (takeF_number h hn r)
theorem parse_text {num : Int} {s : List UInt8} (h : 1 ≤ num ∧ num < 536870912) (hn : s.length < 18446744073709551616) (r : List UInt8) : parseF (textF num s ++ r) = (parseF r).map (⟨num, 2, 0, s⟩ :: ·) :=
  parseF_ok (by simp [textF_ne h]) (takeF_text h hn r)
end Go.Proofs.YthlbgeonobicbaaDoor

namespace Go.Proofs.YthlbgeonobicbaaDoor
open Go Go.V
set_option linter.unusedVariables false

theorem rv_cut : ∀ (m n k acc j : Nat), n ≤ m → n * 128 ^ k < 18446744073709551616 → k ≤ 9 → j < (varint n).length → rv k acc ((varint n).take j) = none := by
  intro m
  induction m with
  | zero =>
    intro n k acc j hn hb hk hj
    obtain rfl : n = 0 := by omega
    rw [varint_lt (by omega)] at hj ⊢
    simp at hj; subst hj; rfl
  | succ m ih =>
    intro n k acc j hn hb hk hj
    cases j with
    | zero => rfl
    | succ j =>
      by_cases hlt : n < 128
      · rw [varint_lt hlt] at hj; simp at hj
      · have hp := pow128 k
        have hk9 : k ≠ 9 := fun e => by subst e; omega
        have hb' : (UInt8.ofNat (n % 128 + 128)).toNat = n % 128 + 128 := by simp; omega
        rw [varint_ge (by omega)] at hj ⊢
        rw [List.take_succ_cons, rv_cons (by omega), hb', if_neg (by rintro ⟨e, h⟩; exact hk9 e), if_neg (by omega)]
        have hdm : n = n / 128 * 128 + n % 128 := by omega
        have e1 : n * 128 ^ k = n / 128 * 128 ^ (k + 1) + n % 128 * 128 ^ k := by
          rw [Nat.pow_succ, Nat.mul_comm (128 ^ k) 128, ← Nat.mul_assoc, ← Nat.add_mul, ← hdm]
        exact ih (n / 128) (k + 1) _ j (by omega) (by omega) (by omega) (by simpa using hj)
theorem readVarint_cut {n j : Nat} (h : n < 18446744073709551616) (hj : j < (varint n).length) : readVarint ((varint n).take j) = none :=
  rv_cut n n 0 0 j (Nat.le_refl _) (by simpa using h) (by omega) hj
theorem take_cut {num : Int} {s : List UInt8} {j : Nat} (h : 1 ≤ num ∧ num < 536870912) (hn : s.length < 18446744073709551616) (hj : j < (textF num s).length) : takeF ((textF num s).take j) = .short := by
  obtain ⟨k, rfl⟩ := Int.eq_ofNat_of_zero_le (a := num) (by omega)
  have e : ((k : Int) * 8 + 2).toNat = k * 8 + 2 := by omega
  rw [textF_eq h, e, List.append_assoc] at hj ⊢
  have hk : k * 8 + 2 < 18446744073709551616 := by omega
  by_cases h1 : j < (varint (k * 8 + 2)).length
  · rw [List.take_append_of_le_length (by omega)]
    unfold takeF
    rw [readVarint_cut hk h1]
  · obtain ⟨i, rfl⟩ : ∃ i, j = (varint (k * 8 + 2)).length + i := ⟨j - (varint (k * 8 + 2)).length, by omega⟩
    rw [List.take_append, List.take_of_length_le (by omega), Nat.add_sub_cancel_left]
    rw [List.length_append, List.length_append] at hj
    unfold takeF
    rw [readVarint_varint hk]
    dsimp only
    rw [if_neg (by omega), List.drop_left, if_neg (by omega), if_pos (by omega)]
    by_cases h2 : i < (varint s.length).length
    · rw [List.take_append_of_le_length (by omega), readVarint_cut hn h2]
    · obtain ⟨x, rfl⟩ : ∃ x, i = (varint s.length).length + x := ⟨i - (varint s.length).length, by omega⟩
      rw [List.take_append, List.take_of_length_le (by omega), Nat.add_sub_cancel_left, readVarint_varint hn]
      dsimp only
      rw [List.drop_left, if_pos (by rw [List.length_take]; omega)]
theorem textF_len {num : Int} {s : List UInt8} (hn : s.length < 18446744073709551616) : (textF num s).length ≤ 20 + s.length := by
  by_cases h : 1 ≤ num ∧ num < 536870912
  · rw [textF_eq h, List.length_append, List.length_append]
    have h1 := varint_len (num * 8 + 2).toNat (by omega)
    have h2 := varint_len s.length hn
    omega
  · rw [textF_no h]; simp
theorem back_parse {k : Nat} {a b : Nat} {s : List UInt8} (hk : 1 ≤ k ∧ k ≤ 65536) (ha : a < 18446744073709551616) (hb : b < 18446744073709551616) (hs : s.length < 18446744073709551616) (r : List UInt8) :
    parseF (numberF k a ++ textF k s ++ numberF ((k + 1 : Nat) : Int) b ++ r) = (parseF r).map ([⟨k, 0, a, []⟩, ⟨k, 2, 0, s⟩, ⟨((k + 1 : Nat) : Int), 0, b, []⟩] ++ ·) := by
  rw [List.append_assoc, List.append_assoc, parse_number (by omega) ha, parse_text (by omega) hs, parse_number (by omega) hb]
  cases parseF r <;> rfl
end Go.Proofs.YthlbgeonobicbaaDoor
