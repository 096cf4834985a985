/- Slices among the arguments: what is read. -/
import Derived.Test.YtjaojihogmnjhaaGreatDoorM3
import Derived.WalkKit
import Derived.ProofKit
import Derived.OpenShut
import Derived.Deep.Slices
import Derived.Deep.DeepHandedRow
namespace Go.V
open Go Go.RowKit Go.ChangeShapes Go.WideShapes Go.ChangeAt
set_option linter.unusedVariables false

theorem cell_shape' {w : World} {a : Addr} {v : Value} (h : w.cell? a = some v) : ∃ b o cur e fr, a = ⟨b, o, none⟩ ∧ w.heap[b]? = some (.cells cur e fr) ∧ cur[o]? = some v := by
  obtain ⟨b, o, sp⟩ := a
  unfold World.cell? at h
  split at h
  · rename_i c e fr hh
    cases sp with
    | some s => simp at h
    | none => exact ⟨b, o, c, e, fr, rfl, hh, by simpa using h⟩
  · cases h
theorem list_choose {α : Type} {p : Nat → α → Prop} : ∀ n : Nat, (∀ i, i < n → ∃ y, p i y) → ∃ l : List α, l.length = n ∧ ∀ i y, l[i]? = some y → p i y
  | 0, _ => ⟨[], rfl, fun i y h => by simp at h⟩
  | n + 1, h => by
    obtain ⟨l, h1, h2⟩ := list_choose n fun i hi => h i (by omega)
    obtain ⟨y, hy⟩ := h n (by omega)
    refine ⟨l ++ [y], by simp [h1], fun i z hz => ?_⟩
    rcases Nat.lt_or_ge i n with hi | hi
    · rw [List.getElem?_append_left (by omega)] at hz; exact h2 i z hz
    · have : i = n := by
        have := (List.getElem?_eq_some_iff.1 hz).1
        simp at this; omega
      subst this
      rw [← h1, List.getElem?_append_right (Nat.le_refl _), Nat.sub_self] at hz
      simp at hz; subst hz; exact hy
/-- A slice that came in, element by element. -/
theorem slice_read {H : Type} {enc : TypeId × Value → H} {P : Program} {W : World} {t e : TypeId} {α : Type} (G : α → List Value) (k : Nat) (D : α → DataW H → Prop) (ht : P.underlying t = some (.slice e)) (hc : P.cellsOf e = k) (hk : 0 < k) (hG : ∀ a, (G a).length = k)
    (hel : ∀ fuel cs x, DataW.trod enc P W 0 (fun _ => true) true fuel e cs = some x → ∃ a, cs = G a ∧ D a x.1) {a : Option Addr} {len cap : Nat} {d : DataW H} {p : List MemPlace}
    (h : DataW.Trod enc P W 0 (fun _ => true) true t (.slice a len cap) d p) : ∃ l : List α, l.length = len ∧ len ≤ maxLen ∧ SlR W k (.slice a len cap) len (l.flatMap G) ∧
      ((d = .nil ∧ len = 0) ∨ ∃ elems rest, d = .slice elems rest ∧ elems.length = len ∧ ∀ (i : Nat) (x : α), l[i]? = some x → ∃ y, elems[i]? = some y ∧ D x y) := by
  obtain ⟨fuel, hf⟩ := h
  rcases Deep.open_slice ht hf with ⟨hcs, hx⟩ | ⟨a', len', cap', m, n, Dd, Pl, hcs, _, hlc, hcm, hm, hx, hall⟩
  · simp [Value.cells] at hcs
    obtain ⟨rfl, rfl, rfl⟩ := hcs
    exact ⟨[], rfl, Nat.zero_le _, ⟨by simp, none, 0, rfl, Nat.le_refl _, .inl ⟨rfl, fun _ => rfl⟩⟩, .inl ⟨(Prod.mk.inj hx).1, rfl⟩⟩
  · simp [Value.cells] at hcs
    obtain ⟨rfl, rfl, rfl⟩ := hcs
    simp only [if_true] at hm
    subst hm
    rw [hc] at hall
    obtain ⟨l, hl1, hl2⟩ := list_choose (p := fun i y => W.cells? 0 (a'.add (i * k)) k = some (G y) ∧ D y (Dd i)) len fun i hi => by
      obtain ⟨cs', h1, h2⟩ := hall i (by omega)
      obtain ⟨y, rfl, hy⟩ := hel _ _ _ h2
      exact ⟨y, h1, hy⟩
    refine ⟨l, hl1, Nat.le_trans hlc hcm, ?_, .inr ⟨_, _, (Prod.mk.inj hx).1, by simp, fun i y hy => ⟨Dd i, ?_, (hl2 i y hy).2⟩⟩⟩
    · refine ⟨by rw [flat_len hG, hl1], some a', _, rfl, hlc, ?_⟩
      rcases Nat.eq_zero_or_pos len with h0 | hpos
      · exact .inl ⟨h0, fun h => by cases h⟩
      · have cellAt : ∀ i y, l[i]? = some y → ∀ j u, (G y)[j]? = some u → W.cell? (a'.add (i * k + j)) = some u := by
          intro i y hy j u hu
          obtain ⟨h1, h2, h3⟩ := World.cells?_some (hl2 i y hy).1
          have hj : j < k := by rw [← hG y]; exact (List.getElem?_eq_some_iff.1 hu).1
          have := h3 j hj
          rw [Deep.add_add] at this
          rw [this, hu]
        obtain ⟨y0, hy0⟩ : ∃ y, l[0]? = some y := ⟨l[0]'(by omega), by simp [show 0 < l.length by omega]⟩
        obtain ⟨u0, hu0⟩ : ∃ u, (G y0)[0]? = some u := ⟨(G y0)[0]'(by rw [hG]; omega), by simp [show 0 < (G y0).length by rw [hG]; omega]⟩
        have hc0 := cellAt 0 y0 hy0 0 u0 hu0
        rw [Nat.zero_mul, Nat.add_zero, show a'.add 0 = a' from rfl] at hc0
        obtain ⟨b, o, cur, e', fr, rfl, hb, hv0⟩ := cell_shape' hc0
        refine .inr ⟨b, o, cur, e', fr, rfl, hb, fun j hj => ?_⟩
        have hi : j / k < len := by rw [Nat.div_lt_iff_lt_mul hk]; exact hj
        obtain ⟨y, hy⟩ : ∃ y, l[j / k]? = some y := ⟨l[j / k]'(by omega), by simp [show j / k < l.length by omega]⟩
        have hjk : j % k < k := Nat.mod_lt _ hk
        obtain ⟨u, hu⟩ : ∃ u, (G y)[j % k]? = some u := ⟨(G y)[j % k]'(by rw [hG]; exact hjk), by simp [show j % k < (G y).length by rw [hG]; exact hjk]⟩
        have hcj := cellAt _ y hy _ u hu
        have hjj : j / k * k + j % k = j := by rw [Nat.mul_comm]; exact Nat.div_add_mod j k
        rw [hjj, addr_add] at hcj
        obtain ⟨b', o', cur', e'', fr', heq, hb', hv⟩ := cell_shape' hcj
        cases heq
        rw [hb] at hb'
        cases hb'
        rw [hv, ← hjj, flat_get hG l _ y _ hy hjk, hu]
    · have hi : i < len := by rw [← hl1]; exact (List.getElem?_eq_some_iff.1 hy).1
      simp [hi]
end Go.V
