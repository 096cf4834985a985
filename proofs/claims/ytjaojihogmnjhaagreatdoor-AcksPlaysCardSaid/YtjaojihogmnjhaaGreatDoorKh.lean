/- Lists of keys and what stands by them. -/
import Derived.Test.YtjaojihogmnjhaaGreatDoorKa
namespace Go.Proofs.YtjaojihogmnjhaaGreatDoor
open Go Go.V Go.RowKit
set_option linter.unusedVariables false
set_option linter.unusedSimpArgs false

def mapL {β : Type} (g : β → Value) (L : List (KY × β)) : List (KY × Value) := L.map fun x => (x.1, g x.2)
def putL {β : Type} (L : List (KY × β)) (k : KY) (y : β) : List (KY × β) := if k ∈ L.map (·.1) then L.map (fun p => if p.1 = k then (k, y) else p) else L ++ [(k, y)]
def delL {β : Type} (L : List (KY × β)) (k : KY) : List (KY × β) := L.filter fun p => p.1 ≠ k
def getL {β : Type} (L : List (KY × β)) (k : KY) : Option β := (L.find? (·.1 = k)).map (·.2)
theorem keys_map {β : Type} (g : β → Value) (L : List (KY × β)) : (mapL g L).map (·.1) = L.map (·.1) := by simp [mapL, Function.comp_def]
theorem putL_map {β : Type} (g : β → Value) (L : List (KY × β)) (k : KY) (y : β) : mapL g (putL L k y) = putM (mapL g L) k (g y) := by
  unfold putL putM
  rw [keys_map]
  by_cases h : k ∈ L.map (·.1)
  · rw [if_pos h, if_pos h]
    unfold mapL
    rw [List.map_map, List.map_map]
    apply List.map_congr_left
    intro p _
    by_cases hp : p.1 = k <;> simp [hp]
  · rw [if_neg h, if_neg h]
    simp [mapL]
theorem delL_map {β : Type} (g : β → Value) (L : List (KY × β)) (k : KY) : mapL g (delL L k) = delM (mapL g L) k := by
  unfold delL delM mapL
  rw [List.filter_map]
  rfl
theorem getL_map {β : Type} (g : β → Value) (L : List (KY × β)) (k : KY) : getM (mapL g L) k = (getL L k).map g := by
  unfold getM getL mapL
  rw [List.find?_map]
  simp [Function.comp_def]
theorem getL_put {β : Type} (L : List (KY × β)) (k x : KY) (y : β) : getL (putL L k y) x = if x = k then some y else getL L x := by
  unfold putL
  by_cases hn : k ∈ L.map (·.1)
  · rw [if_pos hn]
    induction L with
    | nil => simp at hn
    | cons p M ih =>
      obtain ⟨q, u⟩ := p
      by_cases hk : q = k
      · subst hk
        by_cases hx : x = q
        · subst hx; simp [getL]
        · by_cases hm : q ∈ M.map (·.1)
          · have := ih hm
            simp only [getL] at this ⊢
            rw [List.map_cons, List.find?_cons, List.find?_cons]
            simp only [if_true]
            rw [decide_eq_false (Ne.symm hx)]
            simpa [hx] using this
          · have hmap : M.map (fun p => if p.1 = q then (q, y) else p) = M := by
              conv => rhs; rw [← List.map_id M]
              apply List.map_congr_left
              intro p hp
              rw [if_neg]; rfl
              intro e
              exact hm (List.mem_map.2 ⟨p, hp, e⟩)
            rw [List.map_cons, hmap]
            simp [getL, Ne.symm hx, hx]
      · have hm : k ∈ M.map (·.1) := by
          simp only [List.map_cons, List.mem_cons] at hn
          exact hn.resolve_left (Ne.symm hk)
        have := ih hm
        by_cases hx : x = q
        · subst hx; simp [getL, hk]
        · simp only [getL] at this ⊢
          rw [List.map_cons, List.find?_cons, List.find?_cons]
          simp only [hk, if_false]
          rw [decide_eq_false (Ne.symm hx)]
          exact this
  · rw [if_neg hn]
    simp only [getL, List.find?_append]
    by_cases hx : x = k
    · subst hx
      have : L.find? (fun p => decide (p.1 = x)) = none := by
        rw [List.find?_eq_none]
        intro p hp
        simp
        intro e
        exact hn (List.mem_map.2 ⟨p, hp, e⟩)
      rw [this]; simp
    · simp [hx, Ne.symm hx]
theorem getL_mem {β : Type} {L : List (KY × β)} {k : KY} {y : β} (h : getL L k = some y) : (k, y) ∈ L := by
  unfold getL at h
  obtain ⟨p, hp, rfl⟩ := Option.map_eq_some_iff.1 h
  have h1 := List.find?_some hp
  simp at h1
  subst h1
  exact List.mem_of_find?_eq_some hp
theorem map_cells {w : World} {enc : KY → Value} {b : Nat} {M : List (KY × Value)} {c : Array Value} {T : TypeId} {fr : Nat × Nat} {g : Nat} (h : MapAt w enc b M) (hg : w.heap[g]? = some (.cells c T fr)) : g ≠ b := by
  rintro rfl
  obtain ⟨es, n, hb, _⟩ := h
  rw [hb] at hg
  cases hg
theorem getL_del {β : Type} (L : List (KY × β)) (k : KY) : getL (delL L k) k = none := by
  unfold getL delL
  have : (L.filter fun p => p.1 ≠ k).find? (fun p => decide (p.1 = k)) = none := by
    rw [List.find?_eq_none]
    intro p hp
    have := (List.mem_filter.1 hp).2
    simp at this
    simp [this]
  rw [this]; rfl
theorem getL_none {β : Type} {L : List (KY × β)} {k : KY} (h : k ∉ L.map (·.1)) : getL L k = none := by
  unfold getL
  have : L.find? (fun p => decide (p.1 = k)) = none := by
    rw [List.find?_eq_none]
    intro p hp
    simp
    intro e
    exact h (List.mem_map.2 ⟨p, hp, e⟩)
  rw [this]; rfl
theorem getL_some {β : Type} : ∀ {L : List (KY × β)} {k : KY}, k ∈ L.map (·.1) → (getL L k).isSome = true
  | [], k, h => by simp at h
  | p :: L, k, h => by
    unfold getL
    rw [List.find?_cons]
    by_cases hp : p.1 = k
    · simp [hp]
    · have : k ∈ L.map (·.1) := by
        simp only [List.map_cons, List.mem_cons] at h
        exact h.resolve_left (fun e => hp e.symm)
      have := getL_some this
      unfold getL at this
      simpa [hp] using this
theorem delL_none {β : Type} {L : List (KY × β)} {k : KY} (h : k ∉ L.map (·.1)) : delL L k = L := by
  unfold delL
  rw [List.filter_eq_self]
  intro p hp
  simp
  intro e
  exact h (List.mem_map.2 ⟨p, hp, e⟩)
theorem delL_len {β : Type} : ∀ {L : List (KY × β)} {k : KY}, (L.map (·.1)).Nodup → k ∈ L.map (·.1) → (delL L k).length + 1 = L.length
  | [], k, _, h => by simp at h
  | p :: L, k, hn, h => by
    simp only [List.map_cons, List.nodup_cons] at hn
    by_cases hp : p.1 = k
    · have h1 : k ∉ L.map (·.1) := by rw [← hp]; exact hn.1
      have h2 : delL (p :: L) k = delL L k := by simp [delL, hp]
      rw [h2, delL_none h1]; rfl
    · have hk : k ∈ L.map (·.1) := by
        simp only [List.map_cons, List.mem_cons] at h
        exact h.resolve_left (fun e => hp e.symm)
      have h2 : delL (p :: L) k = p :: delL L k := by simp [delL, hp]
      rw [h2, List.length_cons, List.length_cons, delL_len hn.2 hk]
theorem putL_new {β : Type} {L : List (KY × β)} {k : KY} (y : β) (h : k ∉ L.map (·.1)) : putL L k y = L ++ [(k, y)] := by unfold putL; rw [if_neg h]
theorem del_mem {β : Type} {L : List (KY × β)} {k x : KY} : x ∈ (delL L k).map (·.1) ↔ x ≠ k ∧ x ∈ L.map (·.1) := by
  unfold delL
  simp only [List.mem_map, List.mem_filter]
  constructor
  · rintro ⟨p, ⟨hp, h⟩, rfl⟩
    exact ⟨by simpa using h, p, hp, rfl⟩
  · rintro ⟨hx, p, hp, rfl⟩
    exact ⟨p, ⟨hp, by simpa using hx⟩, rfl⟩
theorem mem_putL {β : Type} {L : List (KY × β)} {k : KY} {y : β} {x : KY × β} (h : x ∈ putL L k y) : x = (k, y) ∨ (x ∈ L ∧ x.1 ≠ k) := by
  unfold putL at h
  split at h
  · obtain ⟨p, hp, rfl⟩ := List.mem_map.1 h
    split
    · exact .inl rfl
    · rename_i hn; exact .inr ⟨hp, hn⟩
  · rename_i hk
    rcases List.mem_append.1 h with h | h
    · exact .inr ⟨h, fun e => hk (List.mem_map.2 ⟨x, h, e⟩)⟩
    · simp at h; exact .inl h
theorem getL_of_mem {β : Type} : ∀ {L : List (KY × β)} {k : KY} {y : β}, (L.map (·.1)).Nodup → (k, y) ∈ L → getL L k = some y
  | [], k, y, _, h => by simp at h
  | p :: L, k, y, hn, h => by
    simp only [List.map_cons, List.nodup_cons] at hn
    unfold getL
    rw [List.find?_cons]
    by_cases hp : p.1 = k
    · rcases List.mem_cons.1 h with rfl | h
      · simp
      · exact absurd (List.mem_map.2 ⟨(k, y), h, hp.symm⟩) hn.1
    · rcases List.mem_cons.1 h with rfl | h
      · exact absurd rfl hp
      · have := getL_of_mem hn.2 h
        unfold getL at this
        simpa [hp] using this
theorem putL_keys {β : Type} {L : List (KY × β)} {k : KY} (y : β) (h : k ∈ L.map (·.1)) : (putL L k y).map (·.1) = L.map (·.1) := by
  unfold putL
  rw [if_pos h, List.map_map]
  apply List.map_congr_left
  intro p _
  by_cases hp : p.1 = k <;> simp [hp]
end Go.Proofs.YtjaojihogmnjhaaGreatDoor
