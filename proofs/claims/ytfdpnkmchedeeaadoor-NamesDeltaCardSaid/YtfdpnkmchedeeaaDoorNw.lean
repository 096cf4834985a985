/- NamesDelta: what its state is. -/
import Derived.Test.YtfdpnkmchedeeaaDoorNr
namespace Go.Proofs.YtfdpnkmchedeeaaDoor
open Go Go.V Go.RowKit
set_option linter.unusedVariables false
set_option linter.unusedSimpArgs false

def nTab : TX := [[97], [98], [99], [42]]
def nOf (x : Nat) : TT := nTab.getD (x % 4) []
theorem nOf_mem (x : Nat) : nOf x ∈ nTab := by
  have h : ∀ i, i < 4 → nTab.getD i [] ∈ nTab := by decide
  exact h (x % 4) (Nat.mod_lt _ (by decide))
/-- What is there, name by name. -/
abbrev TB := TT → Bool
def stT (T : TB) : PS := (T star, nTab.filter fun x => decide (nameOk x) && T x)
def updT (T : TB) (n : TT) (b : Bool) : TB := fun x => if x = n then b else T x
theorem nTab_rises : Rises [[97], [98], [99]] := by unfold Rises; decide
theorem stT_eq (T : TB) : (stT T).2 = ([[97], [98], [99]] : TX).filter T := by
  have h1 : nameOk [97] := by decide
  have h2 : nameOk [98] := by decide
  have h3 : nameOk [99] := by decide
  have h4 : ¬ nameOk [42] := by decide
  simp [stT, nTab, List.filter_cons, h1, h2, h3, h4]
theorem stT_fine (T : TB) : Fine (stT T) := ⟨by rw [stT_eq]; exact List.Pairwise.filter _ nTab_rises, fun x hx => by
  have := (List.mem_filter.1 hx).2
  simp at this
  exact this.1⟩
theorem mem_stT (T : TB) (x : TT) : x ∈ (stT T).2 ↔ x ∈ nTab ∧ nameOk x ∧ T x = true := by
  unfold stT
  rw [List.mem_filter]; simp
theorem add_stT {T : TB} {n : TT} (hn : n ∈ nTab) : unionP [stT T, ofP [n]] = stT (updT T n true) := by
  refine fine_ext (union_fine2 (stT_fine T) (ofP_fine _)) (stT_fine _) ?_ fun x => ?_
  · rw [union_all2]
    show (T star || decide (star ∈ [n])) = updT T n true star
    unfold updT
    by_cases h : star = n <;> simp [h]
  · rw [mem_union2, mem_stT, mem_stT, mem_ofP]
    unfold updT
    by_cases h : x = n
    · subst h; simp [hn]; exact fun h _ => h
    · simp [h]
theorem drop_stT {T : TB} {n : TT} (hn : n ∈ nTab) : lessP (stT T) (ofP [n]) = stT (updT T n false) := by
  refine fine_ext (lessP_fine (stT_fine T)) (stT_fine _) ?_ fun x => ?_
  · show (T star && !decide (star ∈ [n])) = updT T n false star
    unfold updT
    by_cases h : star = n <;> simp [h]
  · rw [mem_lessP, mem_stT, mem_stT, mem_ofP]
    unfold updT
    by_cases h : x = n
    · subst h; simp; exact fun _ h _ => h
    · simp [h]
theorem of_stT (T : TB) : ofP (nTab.filter T) = stT T := by
  refine fine_ext (ofP_fine _) (stT_fine _) ?_ fun x => ?_
  · show decide (star ∈ nTab.filter T) = T star
    have : star ∈ nTab := by decide
    rw [Bool.eq_iff_iff, decide_eq_true_eq, List.mem_filter]
    simp [this]
  · rw [mem_ofP, mem_stT, List.mem_filter]
    constructor
    · rintro ⟨⟨h1, h2⟩, h3⟩; exact ⟨h1, h3, h2⟩
    · rintro ⟨h1, h2, h3⟩; exact ⟨⟨h1, h3⟩, h2⟩
theorem stT_none : stT (fun _ => false) = (false, []) := by
  unfold stT
  simp
theorem has_stT (T : TB) {x : TT} (hx : x ∈ nTab) (hn : nameOk x) : hasP (stT T) x = (T x || T star) := by
  rw [hasP_def, decide_eq_true hn]
  have : decide (x ∈ (stT T).2) = T x := by
    rw [Bool.eq_iff_iff, decide_eq_true_eq, mem_stT]
    simp [hx, hn]
  rw [this]
  show (true && (T star || T x)) = _
  rw [Bool.true_and, Bool.or_comm]
theorem has_zz (T : TB) : hasP (stT T) [122, 122] = T star := by
  rw [hasP_def, decide_eq_true (show nameOk [122, 122] by decide)]
  have : decide (([122, 122] : TT) ∈ (stT T).2) = false := by
    rw [decide_eq_false]
    rw [mem_stT]
    rintro ⟨h, _⟩
    revert h
    decide
  rw [this]
  show (true && (T star || false)) = _
  simp
/-- The map: a name asked for. -/
abbrev MS := List (TT × Value)
def Seen (M : MS) (T : TB) : Prop := ∀ x, (getM M x).getD (.bool false) = .bool (T x)
theorem seen_nil : Seen [] (fun _ => false) := fun x => rfl
theorem getM_put (M : MS) (n x : TT) (v : Value) : getM (putM M n v) x = if x = n then some v else getM M x := by
  unfold putM
  by_cases hn : n ∈ M.map (·.1)
  · rw [if_pos hn]
    induction M with
    | nil => simp at hn
    | cons p M ih =>
      obtain ⟨k, u⟩ := p
      by_cases hk : k = n
      · subst hk
        by_cases hx : x = k
        · subst hx; simp [getM]
        · by_cases hm : k ∈ M.map (·.1)
          · have := ih hm
            simp only [getM] at this ⊢
            rw [List.map_cons, List.find?_cons, List.find?_cons]
            simp only [if_true]
            rw [decide_eq_false (Ne.symm hx)]
            simpa [hx] using this
          · have hmap : M.map (fun p => if p.1 = k then (k, v) else p) = M := by
              conv => rhs; rw [← List.map_id M]
              apply List.map_congr_left
              intro p hp
              rw [if_neg]; rfl
              intro e
              exact hm (List.mem_map.2 ⟨p, hp, e⟩)
            rw [List.map_cons, hmap]
            simp [getM, Ne.symm hx, hx]
      · have hm : n ∈ M.map (·.1) := by
          simp only [List.map_cons, List.mem_cons] at hn
          exact hn.resolve_left (Ne.symm hk)
        have := ih hm
        by_cases hx : x = k
        · subst hx; simp [getM, hk]
        · simp only [getM] at this ⊢
          rw [List.map_cons, List.find?_cons, List.find?_cons]
          simp only [hk, if_false]
          rw [decide_eq_false (Ne.symm hx)]
          exact this
  · rw [if_neg hn]
    simp only [getM, List.find?_append]
    by_cases hx : x = n
    · subst hx
      have : M.find? (fun p => decide (p.1 = x)) = none := by
        rw [List.find?_eq_none]
        intro p hp
        simp
        intro e
        exact hn (List.mem_map.2 ⟨p, hp, e⟩)
      rw [this]; simp
    · simp [hx, Ne.symm hx]
theorem Seen.put {M : MS} {T : TB} (h : Seen M T) (n : TT) (b : Bool) : Seen (putM M n (.bool b)) (updT T n b) := by
  intro x
  rw [getM_put]
  unfold updT
  by_cases hx : x = n
  · simp [hx]
  · simp only [hx, if_false]; exact h x
end Go.Proofs.YtfdpnkmchedeeaaDoor
