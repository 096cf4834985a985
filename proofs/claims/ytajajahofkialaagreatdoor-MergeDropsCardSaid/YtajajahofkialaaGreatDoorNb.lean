/- names.sorted: Sort and Compact of an own row of texts. -/
import Derived.Test.YtajajahofkialaaGreatDoorNa
import Derived.Test.YtajajahofkialaaGreatDoorShelf
namespace Go.Proofs.YtajajahofkialaaGreatDoor
open Go Go.V Go.RowKit
set_option linter.unusedVariables false
set_option linter.unusedSimpArgs false

theorem put_cells {cur : Array Value} {d : TX} (h : d.length ≤ cur.size) : (Sort.putCells encStr 0 d.toArray cur).size = cur.size ∧ (Sort.putCells encStr 0 d.toArray cur).toList.take d.length = SL d := by
  have hs : (Sort.putCells encStr 0 d.toArray cur).size = cur.size := by simp [Sort.putCells]
  refine ⟨hs, ?_⟩
  apply List.ext_getElem?
  intro i
  by_cases hi : i < d.length
  · rw [List.getElem?_take_of_lt hi]
    have h1 : i < cur.size := by omega
    have h2 : (SL d)[i]? = some (S d[i]) := SL_get (by simp [hi])
    rw [h2]
    simp [Sort.putCells, h1, hi, encStr, getElem!_pos]
  · rw [List.getElem?_eq_none (by simp; omega), List.getElem?_eq_none (by rw [SL_len]; omega)]
theorem put_own {w : World} {base n cap g N : Nat} {os : Array Obj} {T : TypeId} {l d : TX} (h : w.ownsRow base T 1 (.slice (some ⟨g, 0, none⟩) n cap) n (SL l)) (hd : d.length = n) :
    (Sort.grow (Sort.putRow encStr (Sort.ahead w N) g 0 d.toArray) os).ownsRow base T 1 (.slice (some ⟨g, 0, none⟩) n cap) n (SL d) ∧ Keeps (fun k => (Value.slice (some ⟨g, 0, none⟩) n cap).ownBlock = some k) w (Sort.grow (Sort.putRow encStr (Sort.ahead w N) g 0 d.toArray) os) := by
  rcases h with ⟨hxl, ⟨h0, _⟩ | ⟨g', cap', cur, he, hg, hb, hn, hc, hcs, htk⟩⟩
  · cases h0
  cases he
  have hlt := lt_of_heap hb
  have hsz : (Sort.putRow encStr (Sort.ahead w N) g 0 d.toArray).heap.size = w.heap.size := by rw [Sort.size_putRow]; rfl
  have hp := put_cells (cur := cur) (d := d) (by omega)
  have hb' : (Sort.putRow encStr (Sort.ahead w N) g 0 d.toArray).heap[g]? = some (.cells (Sort.putCells encStr 0 d.toArray cur) T (0, 0)) := by
    show (w.heap.modify g (Sort.onCells _))[g]? = _
    rw [Array.getElem?_modify, if_pos rfl, hb]; rfl
  have hgr : ∀ k, k < w.heap.size → (Sort.grow (Sort.putRow encStr (Sort.ahead w N) g 0 d.toArray) os).heap[k]? = (Sort.putRow encStr (Sort.ahead w N) g 0 d.toArray).heap[k]? := fun k hk => Array.getElem?_append_left (by rw [hsz]; exact hk)
  refine ⟨⟨by rw [SL_len]; omega, .inr ⟨g, cap, _, rfl, hg, (hgr g hlt).trans hb', hn, hc, by rw [hp.1]; exact hcs, by rw [Nat.mul_one, ← hd]; exact hp.2⟩⟩, rfl, rfl, rfl, ?_, fun k hk hne => ?_⟩
  · show w.heap.size ≤ (_ ++ os).size
    rw [Array.size_append, hsz]; omega
  · rw [hgr k hk]
    show (w.heap.modify g (Sort.onCells _))[k]? = _
    rw [Array.getElem?_modify, if_neg (fun e => hne (by rw [← e]; rfl))]
theorem own_holds {w : World} {base n cap g : Nat} {T : TypeId} {l : TX} (h : w.ownsRow base T 1 (.slice (some ⟨g, 0, none⟩) n cap) n (SL l)) : Sort.Holds encStr w g 0 l.toArray := by
  intro j hj
  have hj' : j < l.length := by simpa using hj
  refine ⟨?_, ?_⟩
  · rcases h with ⟨hxl, ⟨h0, _⟩ | ⟨g', cap', cur, he, hg, hb, hn, hc, hcs, htk⟩⟩
    · cases h0
    cases he
    have hll : l.length = n := by rw [SL_len] at hxl; omega
    have h1 : (SL l)[j]? = some (S l[j]) := SL_get (by simp [hj'])
    rw [← htk, List.getElem?_take_of_lt (by omega)] at h1
    have h2 : cur[0 + j]? = some (S l[j]) := by rw [Nat.zero_add]; simpa using h1
    have h3 := cell_of_heap hb h2
    rw [h3]
    simp [hj', encStr, getElem!_pos]
  · rw [Nat.zero_add]; exact World.ownsRow.frozenAt h j
def srt (l : TX) : TX := l.mergeSort fun x y => decide (x ≤ y)
theorem srt_len (l : TX) : (srt l).length = l.length := List.length_mergeSort l
theorem sort_ca {base n cap g : Nat} {l : TX} (w : World) (h : w.ownsRow base 9 1 (.slice (some ⟨g, 0, none⟩) n cap) n (SL l)) (hn : n < 4611686018427387904) :
    Ca Tryz.prog 76 #[.slice (some ⟨g, 0, none⟩) n cap] w fun r w' => r = .tuple #[] ∧ w'.ownsRow base 9 1 (.slice (some ⟨g, 0, none⟩) n cap) n (SL (srt l)) ∧ Keeps (fun k => (Value.slice (some ⟨g, 0, none⟩) n cap).ownBlock = some k) w w' := by
  have hll : l.length = n := by have := h.1; rw [SL_len] at this; omega
  have hlt : g < w.heap.size := (h.lt g rfl).2
  have hc := Tryz.slices_Sort_string g 0 cap l w (own_holds h) hlt (by omega)
  rw [hll] at hc
  refine Ca.of_calls hc (fun e w' ⟨h1, N, os, h2⟩ => ?_)
  obtain ⟨h3, h4⟩ := put_own (N := N) (os := os) (d := srt l) h (by rw [srt_len]; exact hll)
  exact ⟨_, h1, rfl, by rw [h2]; exact h3, by rw [h2]; exact h4⟩
end Go.Proofs.YtajajahofkialaaGreatDoor
