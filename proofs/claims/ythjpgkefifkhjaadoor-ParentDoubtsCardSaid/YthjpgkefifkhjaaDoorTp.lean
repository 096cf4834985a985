/- ParentTold: the plain facts. -/
import Derived.Test.YthjpgkefifkhjaaDoorTo
namespace Go.Proofs.YthjpgkefifkhjaaDoor
open Go Go.V Go.RowKit
set_option linter.unusedVariables false
set_option linter.unusedSimpArgs false

/-- Nobody stands at 0. -/
def Z0 (T : List ND) : Prop := T[0]? = some ndZ
theorem chooseN_Z (T : List ND) : chooseN T ndZ = ndZ := rfl
theorem newT_Z (N : List NG) : Z0 (newT N) := by unfold Z0 newT initT; simp [chooseN_Z]
theorem newT_len (N : List NG) : (newT N).length = N.length + 1 := by unfold newT initT; simp
theorem Z0.choose {T : List ND} (h : Z0 T) (k : Nat) : Z0 (chooseT T k) := by
  unfold Z0 chooseT at *
  by_cases hk : k = 0
  · subst hk
    have : T.getD 0 ndZ = ndZ := by simp [h]
    rw [this, chooseN_Z]
    have := (List.getElem?_eq_some_iff.1 h).1
    exact List.getElem?_set_self this
  · rw [List.getElem?_set_ne hk]; exact h
theorem Z0.set {T : List ND} (h : Z0 T) {k : Nat} (hk : k ≠ 0) (n : ND) : Z0 (T.set k n) := by
  unfold Z0 at *
  rw [List.getElem?_set_ne hk]; exact h
theorem Z0.fold {T : List ND} (h : Z0 T) (l : List Nat) : Z0 (l.foldl chooseT T) := by
  induction l generalizing T with
  | nil => exact h
  | cons k l ih => exact ih (h.choose k)
theorem Z0.fall {T : List ND} (h : Z0 T) (id : Int) : Z0 (fallF T id) := by
  unfold fallF
  split
  · rename_i hc
    unfold fallT
    refine Z0.fold (Z0.choose (Z0.set h ?_ _) _) _
    have := hc.1.1
    omega
  · exact h
theorem idxOf_nil (x : Int) : idxOf [] x = -1 := rfl
theorem Z0.stepz {T : List ND} (h : Z0 T) (id : Int) (k : Nat) : Z0 (stepR id T k) := by
  unfold stepR
  dsimp only
  have h1 : Z0 (T.set k (unDoubt id (T.getD k ndZ))) := by
    by_cases hk : k = 0
    · subst hk
      have : T.getD 0 ndZ = ndZ := by unfold Z0 at h; simp [h]
      rw [this]
      exact List.getElem?_set_self (List.getElem?_eq_some_iff.1 h).1
    · exact h.set hk _
  split
  · exact h1.choose _
  · exact h1
theorem Z0.rise {T : List ND} (h : Z0 T) (id : Int) : Z0 (riseF T id) := by
  unfold riseF
  split
  · rename_i hc
    unfold riseT
    have h0 : Z0 (chooseT (T.set id.toNat (riseN (T.getD id.toNat ndZ))) id.toNat) := Z0.choose (Z0.set h (by have := hc.1.1; omega) _) _
    revert h0
    generalize chooseT (T.set id.toNat (riseN (T.getD id.toNat ndZ))) id.toNat = T1
    generalize List.range T.length = l
    intro h0
    induction l generalizing T1 with
    | nil => exact h0
    | cons k l ih => exact ih _ (h0.stepz _ k)
  · exact h
theorem Z0.par {T : List ND} (h : Z0 T) : parAt T 0 = 0 := by unfold parAt; unfold Z0 at h; simp [h, ndZ]
theorem turnN_pre (T T' : List ND) {k n : Nat} (h : k ≤ n) : ∃ r, turnN T T' n = turnN T T' k ++ r := by
  obtain ⟨m, rfl⟩ := Nat.exists_eq_add_of_le h
  clear h
  induction m with
  | zero => exact ⟨[], by simp⟩
  | succ m ih =>
    obtain ⟨r, hr⟩ := ih
    exact ⟨r ++ if parAt T' (k + m) ≠ parAt T (k + m) then [k + m] else [], by rw [← Nat.add_assoc, turnN_snoc, hr, List.append_assoc]⟩
theorem turnN_at (T T' : List ND) {k n : Nat} (h : k < n) (hp : parAt T' k ≠ parAt T k) : (turnN T T' n)[(turnN T T' k).length]? = some k := by
  obtain ⟨r, hr⟩ := turnN_pre T T' (show k + 1 ≤ n from h)
  rw [hr, turnN_snoc, if_pos hp, List.append_assoc, List.getElem?_append_right (Nat.le_refl _)]
  simp
theorem turnN_one (T T' : List ND) (h : Z0 T) (h' : Z0 T') : turnN T T' 1 = [] := by
  unfold turnN
  simp [List.range_succ, h.par, h'.par]
/-- A deed. -/
structure DK where
  kind : Nat
  id : Int
  of : Int
  near : Bool
def GD (x : DK) : List Value := [.int .u8 (x.kind : Int), .int .i64 x.id, .int .i64 x.of, .bool x.near]
theorem GD_len (x : DK) : (GD x).length = 4 := rfl
theorem wrap_nat (z : Int) : ∃ u : Nat, IntKind.u64.wrap z = (u : Int) ∧ u < 18446744073709551616 := ⟨(IntKind.u64.wrap z).toNat, by rw [IntKind.wrap_u64]; omega, by rw [IntKind.wrap_u64]; omega⟩
end Go.Proofs.YthjpgkefifkhjaaDoor
