/- Sets in a row, counts of a name: what several laws need. -/
import Derived.Test.YtajajahofkialaaGreatDoorHm2
namespace Go.Proofs.YtajajahofkialaaGreatDoor
open Go Go.V Go.RowKit
set_option linter.unusedVariables false
set_option linter.unusedSimpArgs false

theorem dig_bytes {n : Nat} (h : n ≤ 3) : bytesV [UInt8.ofNat (48 + n)] = [.int .u8 (48 + (n : Int))] := by
  have : ((UInt8.ofNat (48 + n)).toNat : Int) = 48 + (n : Int) := by
    rw [UInt8.toNat_ofNat']
    omega
  show [Value.int .u8 ((UInt8.ofNat (48 + n)).toNat : Int)] = _
  rw [this]
theorem unionK_other {Wn : WF} {t : TY} (s : PS) {k : Nat} (hk : (k : Int) ≠ t.2) : unionK (updW Wn t s) k = unionK Wn k := by
  refine ofP_congr fun x => ?_
  rw [mem_allL, mem_allL]
  have e : ∀ i : Nat, updW Wn t s ((i : Int), (k : Int)) = Wn ((i : Int), (k : Int)) := fun i => updW_ne s (fun e => hk (by rw [← e]))
  constructor
  · rintro ⟨i, hi, h⟩
    rw [e] at h
    exact ⟨i, hi, h⟩
  · rintro ⟨i, hi, h⟩
    exact ⟨i, hi, by rw [e]; exact h⟩
theorem setsAt_alloc (w : World) (L : List SE) (h : ∀ x ∈ L, SlR w 1 x.2 x.1.2.length (SL x.1.2)) : SetsAt (w.alloc (.cells ((L.map fun x => SetV x.1.1 x.2).flatMap (fun v => v.cells.toList)).toArray 41)) L (.slice (some ⟨w.heap.size, 0, none⟩) L.length L.length) := by
  have e : (L.map fun x => SetV x.1.1 x.2).flatMap (fun v => v.cells.toList) = L.flatMap GSt := by
    rw [List.flatMap_map]; rfl
  have hl : (L.flatMap GSt).length = L.length * 2 := by
    induction L with
    | nil => rfl
    | cons x L ih =>
      rw [List.flatMap_cons, List.length_append, ih (fun y hy => h y (by simp [hy])) (by rw [List.flatMap_map]; rfl)]
      simp [GSt]; omega
  refine ⟨⟨hl, _, _, rfl, Nat.le_refl _, .inr ⟨w.heap.size, 0, _, _, _, rfl, heap_alloc_same _ _, fun j hj => ?_⟩⟩, fun x hx => (h x hx).keep ((Keeps.refl NoB w).alloc _) (fun _ _ h => h)⟩
  rw [e, Nat.zero_add, List.getElem?_toArray]
theorem countP_nodup {l : TX} (h : l.Nodup) (u : TT) : l.countP (fun x => decide (x = u)) = if u ∈ l then 1 else 0 := by
  induction l with
  | nil => rfl
  | cons a l ih =>
    obtain ⟨h1, h2⟩ := List.nodup_cons.1 h
    rw [List.countP_cons, ih h2]
    by_cases e : a = u
    · subst e
      simp [h1]
    · simp [e, Ne.symm e]
end Go.Proofs.YtajajahofkialaaGreatDoor
