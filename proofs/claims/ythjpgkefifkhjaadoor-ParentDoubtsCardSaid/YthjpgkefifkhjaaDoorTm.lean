/- norialaw16.examples. -/
import Derived.Test.YthjpgkefifkhjaaDoorTl
namespace Go.Proofs.YthjpgkefifkhjaaDoor
open Go Go.V Go.RowKit
set_option linter.unusedVariables false
set_option linter.unusedSimpArgs false

def exN : List NG := [(0, []), (1, [1]), (2, [2, 1])]
def exT0 : List ND := [ndZ, ⟨0, [], true, 0, []⟩, ⟨1, [1], true, 1, []⟩, ⟨2, [2, 1], true, 2, []⟩]
def exT1 : List ND := [ndZ, ⟨0, [], true, 0, []⟩, ⟨1, [1], false, 0, []⟩, ⟨2, [2, 1], true, 1, []⟩]
theorem ex_right : rightP exN := by decide
theorem ex_new : newT exN = exT0 := by rfl
theorem ex_fall : fallF exT0 2 = exT1 := by rfl
theorem ex_rise : riseF exT1 2 = exT0 := by rfl
theorem ex_told : turnN exT0 exT1 4 = [2, 3] := by decide
theorem ex_told' : turnN exT1 exT0 4 = [2, 3] := by decide
theorem ex_text0 : textT exT0 = [49, 62, 48, 32, 50, 62, 49, 32, 51, 62, 50] := by
  simp [textT, textL, textN, exT0, Lib.join, Lib.decDigits_one, List.range_succ, List.intercalate]
theorem ex_text1 : textT exT1 = [49, 62, 48, 32, 50, 45, 32, 51, 62, 49] := by
  simp [textT, textL, textN, exT1, Lib.join, Lib.decDigits_one, List.range_succ, List.intercalate]
def exMu (id : Int) : Nat := if id = 3 then 3 else if id = 2 then 2 else if id = 1 then 1 else 0
theorem ex_mu : ∀ id, upT exT0 id = true → id ≠ 1 → exMu (parT exT0 id) < exMu id := by
  intro id hu h1
  have hin : inT exT0 id := by
    by_cases h : inT exT0 id
    · exact h
    · unfold upT at hu; rw [if_neg h] at hu; cases hu
  have : id = 1 ∨ id = 2 ∨ id = 3 := by unfold inT exT0 at hin; simp at hin; omega
  rcases this with rfl | rfl | rfl
  · exact absurd rfl h1
  · decide
  · decide
theorem ex_path : pathL exT0 4 3 = ([3, 2, 1], true) := by rfl
end Go.Proofs.YthjpgkefifkhjaaDoor
