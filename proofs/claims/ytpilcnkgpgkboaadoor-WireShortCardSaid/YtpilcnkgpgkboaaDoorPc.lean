/- Plain laws of the bytes, third text: a number written longer. No program stands here. -/
import Derived.Test.YtpilcnkgpgkboaaDoorPb
namespace Go.Proofs.YtpilcnkgpgkboaaDoor
open Go Go.V
set_option linter.unusedVariables false

/-- 128, i - 1 times, and a 0. -/
def zeros : Nat → List UInt8
  | 0 => []
  | 1 => [0]
  | i + 2 => 128 :: zeros (i + 1)
/-- n's bytes, by i bytes longer. -/
def vlong (i : Nat) (n : Nat) : List UInt8 := if h : n < 128 then (if i = 0 then [UInt8.ofNat n] else UInt8.ofNat (n + 128) :: zeros i) else UInt8.ofNat (n % 128 + 128) :: vlong i (n / 128)
termination_by n
decreasing_by omega
theorem vlong_lt0 {n : Nat} (h : n < 128) : vlong 0 n = [UInt8.ofNat n] := by unfold vlong; rw [dif_pos h, if_pos rfl]
theorem vlong_lt {i n : Nat} (h : n < 128) (hi : i ≠ 0) : vlong i n = UInt8.ofNat (n + 128) :: zeros i := by unfold vlong; rw [dif_pos h, if_neg hi]
theorem vlong_ge {i n : Nat} (h : 128 ≤ n) : vlong i n = UInt8.ofNat (n % 128 + 128) :: vlong i (n / 128) := by rw [vlong, dif_neg (by omega)]
theorem vlong_zero : ∀ (m n : Nat), n ≤ m → vlong 0 n = varint n := by
  intro m
  induction m with
  | zero => intro n hn; obtain rfl : n = 0 := by omega
            rw [vlong_lt0 (by omega), varint_lt (by omega)]
  | succ m ih =>
    intro n hn
    by_cases h : n < 128
    · rw [vlong_lt0 h, varint_lt h]
    · rw [vlong_ge (by omega), varint_ge (by omega), ih (n / 128) (by omega)]
theorem zeros_len : ∀ i, (zeros i).length = i
  | 0 => rfl
  | 1 => rfl
  | i + 2 => by rw [zeros, List.length_cons, zeros_len (i + 1)]
theorem vlong_len : ∀ (m n i : Nat), n ≤ m → (vlong i n).length = (varint n).length + i := by
  intro m
  induction m with
  | zero =>
    intro n i hn; obtain rfl : n = 0 := by omega
    by_cases hi : i = 0
    · subst hi; rw [vlong_lt0 (by omega), varint_lt (by omega)]; rfl
    · rw [vlong_lt (by omega) hi, varint_lt (by omega), List.length_cons, zeros_len]; simp; omega
  | succ m ih =>
    intro n i hn
    by_cases h : n < 128
    · by_cases hi : i = 0
      · subst hi; rw [vlong_lt0 h, varint_lt h]; rfl
      · rw [vlong_lt h hi, varint_lt h, List.length_cons, zeros_len]; simp; omega
    · rw [vlong_ge (by omega), varint_ge (by omega), List.length_cons, List.length_cons, ih (n / 128) i (by omega)]; omega
/-- The last byte with its high bit set, and a 0 behind. -/
def more1 (l : List UInt8) : List UInt8 := match l with
  | [] => [0]
  | [b] => [b ||| 128, 0]
  | b :: c :: l => b :: more1 (c :: l)
theorem or128 (n : Nat) (h : n < 128) : UInt8.ofNat n ||| 128 = UInt8.ofNat (n + 128) := by
  have : ∀ x : Fin 128, (UInt8.ofNat x.val ||| 128) = UInt8.ofNat (x.val + 128) := by decide +kernel
  exact this ⟨n, h⟩
theorem more1_zeros : ∀ i, more1 (zeros (i + 1)) = zeros (i + 2)
  | 0 => by rfl
  | i + 1 => by
    show more1 (128 :: zeros (i + 1)) = 128 :: zeros (i + 2)
    have h := more1_zeros i
    cases hz : zeros (i + 1) with
    | nil => have := zeros_len (i + 1); rw [hz] at this; cases this
    | cons c l => rw [hz] at h; show 128 :: more1 (c :: l) = _; rw [h]
theorem more1_vlong : ∀ (m n i : Nat), n ≤ m → more1 (vlong i n) = vlong (i + 1) n := by
  intro m
  induction m with
  | zero =>
    intro n i hn; obtain rfl : n = 0 := by omega
    rw [vlong_lt (i := i + 1) (by omega) (by omega)]
    cases i with
    | zero => rw [vlong_lt0 (by omega)]; rfl
    | succ i =>
      rw [vlong_lt (by omega) (by omega)]
      cases hz : zeros (i + 1) with
      | nil => have := zeros_len (i + 1); rw [hz] at this; cases this
      | cons c l => show _ :: more1 (c :: l) = _; rw [← hz, more1_zeros]
  | succ m ih =>
    intro n i hn
    by_cases h : n < 128
    · rw [vlong_lt (i := i + 1) h (by omega)]
      cases i with
      | zero => rw [vlong_lt0 h]; show [UInt8.ofNat n ||| 128, 0] = _; rw [or128 n h]; rfl
      | succ i =>
        rw [vlong_lt h (by omega)]
        cases hz : zeros (i + 1) with
        | nil => have := zeros_len (i + 1); rw [hz] at this; cases this
        | cons c l => show _ :: more1 (c :: l) = _; rw [← hz, more1_zeros]
    · rw [vlong_ge (by omega), vlong_ge (i := i + 1) (by omega), ← ih (n / 128) i (by omega)]
      cases hz : vlong i (n / 128) with
      | nil =>
        have := vlong_len (n / 128) (n / 128) i (Nat.le_refl _)
        rw [hz] at this
        have hp : 1 ≤ (varint (n / 128)).length := by unfold varint; split <;> simp
        simp at this; omega
      | cons c l => rfl
theorem more1_set : ∀ (l : List UInt8) (b : UInt8), l ≠ [] → l[l.length - 1]? = some b → more1 l = l.set (l.length - 1) (b ||| 128) ++ [0]
  | [], b, h, _ => absurd rfl h
  | [c], b, _, hb => by simp at hb; subst hb; rfl
  | c :: d :: l, b, _, hb => by
    have e : (c :: d :: l).length - 1 = (d :: l).length - 1 + 1 := by simp
    rw [e, List.getElem?_cons_succ] at hb
    rw [e, List.set_cons_succ, List.cons_append, ← more1_set (d :: l) b (by simp) hb]; rfl
theorem rv_stop {k acc : Nat} (h : 10 ≤ k) : ∀ l, rv k acc l = none
  | [] => rfl
  | b :: l => by simp [rv, h]
theorem rv_zeros : ∀ (i k acc : Nat) (r : List UInt8), rv k acc (zeros (i + 1) ++ r) = if k + (i + 1) ≤ 10 then some (acc, k + (i + 1)) else none
  | 0, k, acc, r => by
    by_cases h : 10 ≤ k
    · rw [rv_stop h, if_neg (by omega)]
    · show rv k acc (0 :: r) = _
      rw [rv_cons (by omega), if_neg (by simp), if_pos (by decide), if_pos (by omega)]
      simp
  | i + 1, k, acc, r => by
    by_cases h : 10 ≤ k
    · rw [rv_stop h, if_neg (by omega)]
    · show rv k acc (128 :: (zeros (i + 1) ++ r)) = _
      rw [rv_cons (by omega)]
      by_cases h9 : k = 9
      · rw [if_pos ⟨h9, by decide⟩, if_neg (by omega)]
      · rw [if_neg (by rintro ⟨e, _⟩; exact h9 e), if_neg (by decide), rv_zeros i]
        have e : acc + ((128 : UInt8).toNat - 128) * 128 ^ k = acc := by
          rw [show (128 : UInt8).toNat - 128 = 0 from rfl, Nat.zero_mul, Nat.add_zero]
        rw [e]
        by_cases hh : k + 1 + (i + 1) ≤ 10
        · rw [if_pos hh, if_pos (by omega)]; congr 2; omega
        · rw [if_neg hh, if_neg (by omega)]
theorem rv_vlong : ∀ (m n i k acc : Nat) (r : List UInt8), n ≤ m → n * 128 ^ k < 18446744073709551616 → rv k acc (vlong i n ++ r) = if k + (vlong i n).length ≤ 10 then some (acc + n * 128 ^ k, k + (vlong i n).length) else none := by
  intro m
  induction m with
  | zero =>
    intro n i k acc r hn hb
    obtain rfl : n = 0 := by omega
    by_cases h : 10 ≤ k
    · rw [rv_stop h, if_neg (by have := vlong_len 0 0 i (Nat.le_refl _); rw [varint_lt (by omega)] at this; simp at this; omega)]
    · cases i with
      | zero =>
        rw [vlong_lt0 (by omega)]
        show rv k acc (0 :: r) = _
        rw [rv_cons (by omega), if_neg (by simp), if_pos (by decide), if_pos (by simp; omega)]
        simp
      | succ i =>
        rw [vlong_lt (by omega) (by omega), List.cons_append, rv_cons (by omega)]
        by_cases h9 : k = 9
        · rw [if_pos ⟨h9, by decide⟩, if_neg (by rw [List.length_cons, zeros_len]; omega)]
        · have e : acc + ((UInt8.ofNat (0 + 128)).toNat - 128) * 128 ^ k = acc + 0 * 128 ^ k := by rw [show (UInt8.ofNat (0 + 128)).toNat - 128 = 0 from rfl]
          rw [if_neg (by rintro ⟨e, _⟩; exact h9 e), if_neg (by decide), rv_zeros i, e, List.length_cons, zeros_len]
          by_cases hh : k + 1 + (i + 1) ≤ 10
          · rw [if_pos hh, if_pos (by omega)]; congr 2; omega
          · rw [if_neg hh, if_neg (by omega)]
  | succ m ih =>
    intro n i k acc r hn hb
    have hp := pow128 k
    have hlen := vlong_len n n i (Nat.le_refl _)
    by_cases h : 10 ≤ k
    · have hp1 : 1 ≤ (varint n).length := by unfold varint; split <;> simp
      rw [rv_stop h, if_neg (by omega)]
    · by_cases hlt : n < 128
      · cases i with
        | zero =>
          rw [vlong_zero n n (Nat.le_refl _), rv_varint n n k acc r (Nat.le_refl _) hb (by omega), if_pos]
          rw [varint_lt hlt]; simp; omega
        | succ i =>
          have hb' : (UInt8.ofNat (n + 128)).toNat = n + 128 := by simp; omega
          rw [vlong_lt hlt (by omega), List.cons_append, rv_cons (by omega), hb']
          by_cases h9 : k = 9
          · rw [if_pos ⟨h9, by omega⟩, if_neg (by rw [List.length_cons, zeros_len]; omega)]
          · rw [if_neg (by rintro ⟨e, _⟩; exact h9 e), if_neg (by omega), rv_zeros i, Nat.add_sub_cancel, List.length_cons, zeros_len]
            by_cases hh : k + 1 + (i + 1) ≤ 10
            · rw [if_pos hh, if_pos (by omega)]; congr 2; omega
            · rw [if_neg hh, if_neg (by omega)]
      · have hb' : (UInt8.ofNat (n % 128 + 128)).toNat = n % 128 + 128 := by simp; omega
        rw [vlong_ge (by omega), List.cons_append, rv_cons (by omega), hb']
        by_cases h9 : k = 9
        · have hl2 := vlong_len (n / 128) (n / 128) i (Nat.le_refl _)
          have hp1 : 1 ≤ (varint (n / 128)).length := by unfold varint; split <;> simp
          rw [if_pos ⟨h9, by omega⟩, if_neg (by rw [List.length_cons]; omega)]
        · have hdm : n = n / 128 * 128 + n % 128 := by omega
          have e1 : n * 128 ^ k = n / 128 * 128 ^ (k + 1) + n % 128 * 128 ^ k := by
            rw [Nat.pow_succ, Nat.mul_comm (128 ^ k) 128, ← Nat.mul_assoc, ← Nat.add_mul, ← hdm]
          rw [if_neg (by rintro ⟨e, _⟩; exact h9 e), if_neg (by omega), ih (n / 128) i (k + 1) _ r (by omega) (by omega), Nat.add_sub_cancel, List.length_cons]
          by_cases hh : k + 1 + (vlong i (n / 128)).length ≤ 10
          · rw [if_pos hh, if_pos (by omega)]
            congr 2
            · omega
            · omega
          · rw [if_neg hh, if_neg (by omega)]
theorem readVarint_vlong {n : Nat} (h : n < 18446744073709551616) (i : Nat) (r : List UInt8) : readVarint (vlong i n ++ r) = if (varint n).length + i ≤ 10 then some (n, (varint n).length + i) else none := by
  have := rv_vlong n n i 0 0 r (Nat.le_refl _) (by simpa using h)
  rw [vlong_len n n i (Nat.le_refl _)] at this
  simpa using this
end Go.Proofs.YtpilcnkgpgkboaaDoor
