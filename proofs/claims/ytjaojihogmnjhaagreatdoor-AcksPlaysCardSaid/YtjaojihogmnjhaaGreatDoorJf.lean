/- noriaref15: Note, first half: where a key's note is. -/
import Derived.Test.YtjaojihogmnjhaaGreatDoorJe
namespace Go.Proofs.YtjaojihogmnjhaaGreatDoor
open Go Go.V Go.RowKit
set_option linter.unusedVariables false
set_option linter.unusedSimpArgs false

/- The head: $1 after New. -/
/- A set of a few: $1 slice, $2 bytes, $3 world, $4 stem, $5 SlR, $6 bytes small, $7 how many. -/
def newN (k : KY) : RN := ⟨k, .slice none 0 0, PN.new⟩
def insN (L : List RN) (i : Nat) (k : KY) : List RN := L.take i ++ newN k :: L.drop i
theorem insN_sort {L : List RN} (h : Sorted L) {k : KY} {i : Nat} (hf : FI L k i false) : Sorted (insN L i k) := by
  obtain ⟨hi, hlt, hr⟩ := hf
  have hr2 : ∀ n, L[i]? = some n → ltK k n.k := fun n hn => by
    rcases hr with ⟨h0, _⟩ | ⟨_, hr⟩
    · cases h0
    · exact ltK_tri (hr n hn).1 (hr n hn).2
  have hL : (L.take i ++ L.drop i).Pairwise fun a b => ltK a.k b.k := by rw [List.take_append_drop]; exact h
  obtain ⟨p1, p2, p3⟩ := List.pairwise_append.1 hL
  have hd : ∀ m ∈ L.drop i, ltK k m.k := fun m hm => by
    obtain ⟨j, hj⟩ := List.getElem?_of_mem hm
    rw [List.getElem?_drop] at hj
    by_cases h0 : j = 0
    · subst h0
      exact hr2 m hj
    · have hjl := (List.getElem?_eq_some_iff.1 hj).1
      obtain ⟨z, hz⟩ : ∃ z, L[i]? = some z := ⟨L[i]'(by omega), by simp⟩
      have hp := List.pairwise_iff_getElem.1 h i (i + j) (by omega) hjl (by omega)
      rw [(List.getElem?_eq_some_iff.1 hz).2, (List.getElem?_eq_some_iff.1 hj).2] at hp
      exact ltK_tr (hr2 z hz) hp
  have ht : ∀ m ∈ L.take i, ltK m.k k := fun m hm => by
    obtain ⟨j, hj⟩ := List.getElem?_of_mem hm
    have hjl := (List.getElem?_eq_some_iff.1 hj).1
    rw [List.length_take] at hjl
    rw [List.getElem?_take_of_lt (by omega)] at hj
    exact hlt j m (by omega) hj
  refine List.pairwise_append.2 ⟨p1, List.pairwise_cons.2 ⟨fun m hm => hd m hm, p2⟩, fun a ha b hb => ?_⟩
  rcases List.mem_cons.1 hb with rfl | hb
  · exact ht a ha
  · exact p3 a ha b hb
theorem insN_mem {L : List RN} {i : Nat} {k : KY} (m : RN) : m ∈ insN L i k ↔ m = newN k ∨ m ∈ L := by
  unfold insN
  rw [List.mem_append, List.mem_cons]
  constructor
  · rintro (h | h | h)
    · exact .inr (List.mem_of_mem_take h)
    · exact .inl h
    · exact .inr (List.mem_of_mem_drop h)
  · rintro (h | h)
    · exact .inr (.inl h)
    · rw [← List.take_append_drop i L, List.mem_append] at h
      rcases h with h | h
      · exact .inl h
      · exact .inr (.inr h)
theorem insN_get {L : List RN} {i : Nat} (k : KY) (h : i ≤ L.length) : (insN L i k)[i]? = some (newN k) := by
  unfold insN
  rw [List.getElem?_append_right (by rw [List.length_take]; omega), List.length_take, Nat.min_eq_left h, Nat.sub_self]
  rfl
theorem insN_len {L : List RN} {i : Nat} (k : KY) (h : i ≤ L.length) : (insN L i k).length = L.length + 1 := by
  unfold insN
  rw [List.length_append, List.length_cons, List.length_take, List.length_drop]
  omega
theorem insN_sep {L : List RN} (i : Nat) (k : KY) (h : L.Pairwise fun a b => ∀ q, a.v.ownBlock = some q → b.v.ownBlock ≠ some q) : (insN L i k).Pairwise fun a b => ∀ q, a.v.ownBlock = some q → b.v.ownBlock ≠ some q := by
  have hL : (L.take i ++ L.drop i).Pairwise fun a b => ∀ q, a.v.ownBlock = some q → b.v.ownBlock ≠ some q := by rw [List.take_append_drop]; exact h
  obtain ⟨p1, p2, p3⟩ := List.pairwise_append.1 hL
  refine List.pairwise_append.2 ⟨p1, List.pairwise_cons.2 ⟨fun m hm q hq => (by cases hq), p2⟩, fun a ha b hb => ?_⟩
  rcases List.mem_cons.1 hb with rfl | hb
  · intro q hq e
    cases e
  · exact p3 a ha b hb
theorem insN_getL {L : List RN} (h : Sorted L) {k : KY} {i : Nat} (hf : FI L k i false) (x : KY) (hx : x ≠ k) : getL (RL (insN L i k)) x = getL (RL L) x := by
  have hno := FI_no h hf
  rw [getL_new h (insN_sort h hf) (n := newN k) (fun m => ?_) x, if_neg (show ¬ x = (newN k).k from hx)]
  rw [insN_mem]
  constructor
  · rintro (h1 | h1)
    · exact .inl h1
    · exact .inr ⟨h1, fun e => hno (List.mem_map.2 ⟨m, h1, e⟩)⟩
  · rintro (h1 | ⟨h1, _⟩)
    · exact .inl h1
    · exact .inr h1
theorem new_one (k : KY) : ∀ u ∈ GN (newN k), u.oneCell' = true := GN_one rfl
end Go.Proofs.YtjaojihogmnjhaaGreatDoor
