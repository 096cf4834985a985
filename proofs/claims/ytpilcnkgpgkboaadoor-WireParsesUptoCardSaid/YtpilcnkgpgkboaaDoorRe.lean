/- Slices of fields among the arguments: what is read. -/
import Derived.Test.YtpilcnkgpgkboaaDoorRd
import Derived.Test.YtpilcnkgpgkboaaDoorVS
namespace Go.Proofs.YtpilcnkgpgkboaaDoor
open Go Go.V Go.RowKit Go.ChangeShapes Go.WideShapes Go.ChangeAt
set_option linter.unusedVariables false

def wfD {H : Type} (x : WF) (d : DataW H) : Prop := x.n < 18446744073709551616 ∧ d = .agg [.lit (.int .i64 x.num), .lit (.int .i64 x.kind), .lit (.int .u64 (x.n : Int)), .lit (.string x.s)]
theorem wf_el {H : Type} {enc : TypeId × Value → H} {W : World} (fuel : Nat) (cs : List Value) (x : DataW H × List MemPlace) (h : DataW.trod enc Tryd.prog W 0 (fun _ => true) true fuel 29 cs = some x) : ∃ a : WF, cs = WF.cs a ∧ wfD a x.1 := by
  obtain ⟨a, b, n, s, rfl, rfl, wa, wb, wn, ws⟩ := trod_wf h
  have bn := bounds_u64 wn
  obtain ⟨m, rfl⟩ := Int.eq_ofNat_of_zero_le bn.1
  exact ⟨⟨a, b, m, s.data.toList⟩, rfl, by show m < _; omega, rfl⟩
theorem bulk_mem {H : Type} : ∀ (l : List (DataW H)) (i : Nat) (y : DataW H), l[i]? = some y → Rows.uptoBulk y ≤ Rows.uptoBulkAll l
  | [], i, y, h => by simp at h
  | d :: l, 0, y, h => by simp at h; subst h; simp only [Rows.uptoBulkAll]; omega
  | d :: l, i + 1, y, h => by
    have := bulk_mem l i y (by simpa using h)
    simp only [Rows.uptoBulkAll]; omega
theorem wf_bulk {H : Type} {l : List WF} {len : Nat} {d : DataW H} (hl : l.length = len) (h : (d = .nil ∧ len = 0) ∨ ∃ elems rest, d = .slice elems rest ∧ elems.length = len ∧ ∀ (i : Nat) (x : WF), l[i]? = some x → ∃ y, elems[i]? = some y ∧ wfD x y) :
    ∀ x ∈ l, x.n < 18446744073709551616 ∧ x.s.length ≤ Rows.uptoBulk d := by
  intro x hx
  obtain ⟨i, hi⟩ := List.getElem?_of_mem hx
  rcases h with ⟨_, h0⟩ | ⟨elems, rest, rfl, _, hall⟩
  · have := (List.getElem?_eq_some_iff.1 hi).1
    omega
  · obtain ⟨y, hy, h1, rfl⟩ := hall i x hi
    have := bulk_mem elems i _ hy
    simp only [Rows.uptoBulk, Rows.uptoBulkAll] at this ⊢
    exact ⟨h1, by omega⟩
end Go.Proofs.YtpilcnkgpgkboaaDoor
