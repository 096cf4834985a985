/- Lists of bytes among the arguments. -/
import Derived.Test.YtahlhldkcekbfaaGreatDoorGts
namespace Go.Proofs.YtahlhldkcekbfaaGreatDoor
open Go Go.V Go.RowKit Go.ChangeShapes Go.WideShapes Go.ChangeAt
set_option linter.unusedVariables false
set_option linter.unusedSimpArgs false

theorem cellsU8s : Tryz.prog.cellsOf 22 = 1 := by kernel_rfl
def u8sOk (W : World) (p : Value × List Nat) : Prop := SlR W 1 p.1 p.2.length (IB p.2) ∧ ∀ x ∈ p.2, x < 256
def u8sRd {H : Type} (W : World) (p : Value × List Nat) (d : DataW H) : Prop := u8sOk W p
theorem u8s_el {H : Type} {enc : TypeId × Value → H} {W : World} (fuel : Nat) (cs : List Value) (x : DataW H × List MemPlace) (h : DataW.trod enc Tryz.prog W 0 (fun _ => true) true fuel 22 cs = some x) : ∃ p : Value × List Nat, cs = [p.1] ∧ u8sRd W p x.1 := by
  have hv : ∃ a n cap, cs = [.slice a n cap] := by
    rcases Deep.open_slice Tryz.underlying22 h with ⟨hcs, _⟩ | ⟨a, len, cap, m, n, D, Pl, hcs, _⟩
    · exact ⟨_, _, _, hcs⟩
    · exact ⟨_, _, _, hcs⟩
  obtain ⟨a, n, cap, rfl⟩ := hv
  obtain ⟨l, hl, _, hsl, hd⟩ := slice_read GU8 1 u8Rd Tryz.underlying22 cellsU8 (by decide) (fun _ => rfl) u8_el (d := x.1) (p := x.2) ⟨fuel, h⟩
  refine ⟨(.slice a n cap, l), rfl, by rw [hl, ← GU8_IB]; exact hsl, fun y hy => ?_⟩
  obtain ⟨i, hi⟩ := List.getElem?_of_mem hy
  rcases hd with ⟨h1, h2⟩ | ⟨elems, rest, h1, h2, h3⟩
  · have h3 := (List.getElem?_eq_some_iff.1 hi).1
    dsimp only at h3
    omega
  · obtain ⟨z, _, hz⟩ := h3 i y hi
    exact hz
theorem one_map (l : List (Value × List Nat)) : (l.flatMap fun p => [p.1]) = l.map (·.1) := by
  induction l with
  | nil => rfl
  | cons a l ih => rw [List.flatMap_cons, ih]; rfl
set_option maxRecDepth 100000 in
theorem open_u8ss {H : Type} {enc : TypeId × Value → H} {W : World} {v : Value} {d : DataW H} {ps : List MemPlace} {base : Nat} (hok : Value.okWide Tryz.prog W .any base 92 v) (hT : DataW.Trod enc Tryz.prog W 0 (fun _ => true) true 92 v d ps) :
    ∃ L : List (Value × List Nat), SlR W 1 v L.length (L.map (·.1)) ∧ ∀ p ∈ L, u8sOk W p := by
  obtain ⟨a0, len0, cap0, rfl⟩ := okWide_slice Tryz.underlying92 hok
  obtain ⟨l, hl, _, hsl, hd⟩ := slice_read (fun p : Value × List Nat => [p.1]) 1 (u8sRd W) Tryz.underlying92 cellsU8s (by decide) (fun _ => rfl) u8s_el hT
  refine ⟨l, by rw [hl, ← one_map]; exact hsl, fun p hp => ?_⟩
  obtain ⟨i, hi⟩ := List.getElem?_of_mem hp
  rcases hd with ⟨h1, h2⟩ | ⟨elems, rest, h1, h2, h3⟩
  · have := (List.getElem?_eq_some_iff.1 hi).1
    omega
  · obtain ⟨z, _, hz⟩ := h3 i p hi
    exact hz
end Go.Proofs.YtahlhldkcekbfaaGreatDoor
