/- Slices of integers among the arguments: what is read. -/
import Derived.Test.YtpilcnkgpgkboaaDoorRa
namespace Go.Proofs.YtpilcnkgpgkboaaDoor
open Go Go.V Go.RowKit Go.ChangeShapes Go.WideShapes Go.ChangeAt
set_option linter.unusedVariables false

theorem cell_shape {w : World} {a : Addr} {v : Value} (h : w.cell? a = some v) : ∃ b o cur e fr, a = ⟨b, o, none⟩ ∧ w.heap[b]? = some (.cells cur e fr) ∧ cur[o]? = some v := by
  obtain ⟨b, o, sp⟩ := a
  unfold World.cell? at h
  split at h
  · rename_i c e fr hh
    cases sp with
    | some s => simp at h
    | none => exact ⟨b, o, c, e, fr, rfl, hh, by simpa using h⟩
  · cases h
theorem ints_read {H : Type} {enc : TypeId × Value → H} {P : Program} {W : World} {k : IntKind} {t e : TypeId} (ht : P.underlying t = some (.slice e)) (he : P.underlying e = some (.int k)) (hc : P.cellsOf e = 1) {a : Option Addr} {len cap : Nat} {d : DataW H} {p : List MemPlace}
    (h : DataW.Trod enc P W 0 (fun _ => true) true t (.slice a len cap) d p) : ∃ zs : List Int, zs.length = len ∧ len ≤ maxLen ∧ (∀ n ∈ zs, (Lit.int k n).wf = true) ∧
      (0 < len → ∃ b o, a = some ⟨b, o, none⟩ ∧ ∃ cur e fr, W.heap[b]? = some (.cells cur e fr) ∧ ∀ (i : Nat) (x : Int), zs[i]? = some x → cur[o + i]? = some (.int k x)) := by
  obtain ⟨fuel, hf⟩ := h
  rcases open_ints ht he hc hf with ⟨hcs, hx⟩ | ⟨a', len', cap', zs, hcs, _, hl, hm, hz, hx, hcell, hwz⟩
  · simp [Value.cells] at hcs
    obtain ⟨rfl, rfl, rfl⟩ := hcs
    exact ⟨[], rfl, Nat.zero_le _, by simp, fun h => absurd h (by omega)⟩
  · simp [Value.cells] at hcs
    obtain ⟨rfl, rfl, rfl⟩ := hcs
    simp only [if_true] at hz
    refine ⟨zs.take len, by rw [List.length_take]; omega, Nat.le_trans hl hm, fun n hn => hwz n (List.mem_of_mem_take hn), fun hpos => ?_⟩
    have h0 := hcell 0 (by omega)
    rw [show a'.add 0 = a' from rfl] at h0
    obtain ⟨b, o, cur, e', fr, rfl, hb, hv0⟩ := cell_shape h0
    refine ⟨b, o, rfl, cur, e', fr, hb, fun i x hx => ?_⟩
    have hi : i < len := by
      have := (List.getElem?_eq_some_iff.1 hx).1
      rw [List.length_take] at this; omega
    rw [List.getElem?_take_of_lt hi] at hx
    have hci := hcell i (by omega)
    rw [addr_add, List.getD_eq_getElem?_getD, hx] at hci
    obtain ⟨b', o', cur', e'', fr', heq, hb', hv⟩ := cell_shape hci
    cases heq
    rw [hb] at hb'
    cases hb'
    exact hv
end Go.Proofs.YtpilcnkgpgkboaaDoor
