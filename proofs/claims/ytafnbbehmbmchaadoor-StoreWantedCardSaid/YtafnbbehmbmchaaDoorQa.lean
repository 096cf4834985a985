/- A heap of a list: what sifting down does. -/
import Derived.Test.YtafnbbehmbmchaaDoorVK
namespace Go.V
set_option linter.unusedVariables false
set_option linter.unusedSimpArgs false

section heap
variable {α : Type}
def Ch2 (p c : Nat) : Prop := c = 2 * p + 1 ∨ c = 2 * p + 2
/-- From place k on nobody is less than who stands above it. -/
def HeapF (lt : α → α → Prop) (k n : Nat) (l : List α) : Prop := ∀ (p c : Nat) (a b : α), k ≤ p → c < n → Ch2 p c → l[p]? = some a → l[c]? = some b → ¬ lt b a
/-- While one at place cur is sifted down. -/
def DownI (lt : α → α → Prop) (k n cur : Nat) (l : List α) : Prop :=
  (∀ (p c : Nat) (a b : α), k ≤ p → p ≠ cur → c < n → Ch2 p c → l[p]? = some a → l[c]? = some b → ¬ lt b a) ∧
  (∀ (p c : Nat) (a b : α), k ≤ p → Ch2 p cur → c < n → Ch2 cur c → l[p]? = some a → l[c]? = some b → ¬ lt b a)
theorem down_start {lt : α → α → Prop} {k n : Nat} {l : List α} (h : HeapF lt (k + 1) n l) : DownI lt k n k l :=
  ⟨fun p c a b hp hn hc hch ha hb => h p c a b (by omega) hc hch ha hb, fun p c a b hp hch => by unfold Ch2 at hch; omega⟩
theorem down_leaf {lt : α → α → Prop} {k n cur : Nat} {l : List α} (h : DownI lt k n cur l) (hc : n ≤ 2 * cur + 1) : HeapF lt k n l := fun p c a b hp hcn hch ha hb => by
  by_cases e : p = cur
  · unfold Ch2 at hch; omega
  · exact h.1 p c a b hp e hcn hch ha hb
/-- j is a child of cur of which none is less. -/
def MinCh (lt : α → α → Prop) (n cur j : Nat) (l : List α) : Prop := j < n ∧ Ch2 cur j ∧ ∀ (c : Nat) (y b : α), c < n → Ch2 cur c → l[j]? = some y → l[c]? = some b → ¬ lt b y
theorem minCh_one {lt : α → α → Prop} (hs : Strict lt) {n cur : Nat} {l : List α} (h1 : 2 * cur + 1 < n) (h2 : ∀ a b, 2 * cur + 2 < n → l[2 * cur + 1]? = some a → l[2 * cur + 2]? = some b → ¬ lt b a) : MinCh lt n cur (2 * cur + 1) l := by
  refine ⟨h1, .inl rfl, fun c y b hc hch hy hb => ?_⟩
  rcases hch with rfl | rfl
  · rw [hy] at hb
    cases hb
    exact fun h => hs.asym _ _ h h
  · exact h2 y b hc hy hb
theorem minCh_two {lt : α → α → Prop} (hs : Strict lt) {n cur : Nat} {l : List α} {a b : α} (h1 : 2 * cur + 2 < n) (ha : l[2 * cur + 1]? = some a) (hb : l[2 * cur + 2]? = some b) (h : lt b a) : MinCh lt n cur (2 * cur + 2) l := by
  refine ⟨h1, .inr rfl, fun c y z hc hch hy hz => ?_⟩
  rw [hb] at hy
  cases hy
  rcases hch with rfl | rfl
  · rw [ha] at hz
    cases hz
    exact hs.asym _ _ h
  · rw [hb] at hz
    cases hz
    exact fun h => hs.asym _ _ h h
theorem down_end {lt : α → α → Prop} (hs : Strict lt) {k n cur j : Nat} {l : List α} {x y : α} (h : DownI lt k n cur l) (hm : MinCh lt n cur j l) (hx : l[cur]? = some x) (hy : l[j]? = some y) (hxy : ¬ lt y x) : HeapF lt k n l := fun p c a b hp hcn hch ha hb => by
  by_cases e : p = cur
  · subst e
    rw [hx] at ha
    cases ha
    exact hs.ntr _ _ _ hxy (hm.2.2 c y b hcn hch hy hb)
  · exact h.1 p c a b hp e hcn hch ha hb
theorem swap_get {l : List α} {i j : Nat} {x y : α} (hi : i < l.length) (hj : j < l.length) (hij : i ≠ j) (q : Nat) : ((l.set i y).set j x)[q]? = if q = j then some x else if q = i then some y else l[q]? := by
  by_cases h1 : q = j
  · subst h1; rw [if_pos rfl, List.getElem?_set_self (by simp; omega)]
  · rw [if_neg h1, List.getElem?_set_ne (Ne.symm h1)]
    by_cases h2 : q = i
    · subst h2; rw [if_pos rfl, List.getElem?_set_self (by omega)]
    · rw [if_neg h2, List.getElem?_set_ne (Ne.symm h2)]
theorem down_step {lt : α → α → Prop} (hs : Strict lt) {k n cur j : Nat} {l : List α} {x y : α} (hk : k ≤ cur) (h : DownI lt k n cur l) (hm : MinCh lt n cur j l) (hx : l[cur]? = some x) (hy : l[j]? = some y) (hxy : lt y x) : DownI lt k n j ((l.set cur y).set j x) := by
  have hcl := (List.getElem?_eq_some_iff.1 hx).1
  have hjl := (List.getElem?_eq_some_iff.1 hy).1
  have hcj : cur < j := by have := hm.2.1; unfold Ch2 at this; omega
  have hg := fun q => swap_get (l := l) (x := x) (y := y) hcl hjl (by omega) q
  constructor
  · intro p c a b hp hpj hc hch ha hb
    rw [hg] at ha hb
    rw [if_neg hpj] at ha
    by_cases hpc : p = cur
    · rw [if_pos hpc] at ha
      cases ha
      subst hpc
      by_cases hcj' : c = j
      · rw [if_pos hcj'] at hb
        cases hb
        exact hs.asym _ _ hxy
      · rw [if_neg hcj', if_neg (by unfold Ch2 at hch; omega)] at hb
        exact hm.2.2 c y b hc hch hy hb
    · rw [if_neg hpc] at ha
      by_cases hcj' : c = j
      · have := hm.2.1
        unfold Ch2 at this hch
        omega
      · rw [if_neg hcj'] at hb
        by_cases hcc : c = cur
        · rw [if_pos hcc] at hb
          cases hb
          subst hcc
          exact h.2 p j a y hp hch hm.1 hm.2.1 ha hy
        · rw [if_neg hcc] at hb
          exact h.1 p c a b hp hpc hc hch ha hb
  · intro p c a b hp hch hc hch2 ha hb
    have hpc : p = cur := by have := hm.2.1; unfold Ch2 at this hch; omega
    rw [hg] at ha hb
    have hcb : j < c := by unfold Ch2 at hch2; omega
    rw [if_neg (by omega), if_pos hpc] at ha
    cases ha
    rw [if_neg (by omega), if_neg (by omega)] at hb
    exact h.1 j c y b (by omega) (by omega) hc hch2 hy hb
theorem heap_root {lt : α → α → Prop} (hs : Strict lt) {l : List α} (h : HeapF lt 0 l.length l) {z : α} (hz : l[0]? = some z) : ∀ (q : Nat) (b : α), l[q]? = some b → ¬ lt b z := by
  intro q
  induction q using Nat.strongRecOn with
  | _ q ih =>
    intro b hb
    by_cases hq : q = 0
    · subst hq
      rw [hz] at hb
      cases hb
      exact fun h => hs.asym _ _ h h
    · have hql := (List.getElem?_eq_some_iff.1 hb).1
      obtain ⟨a, ha⟩ : ∃ a, l[(q - 1) / 2]? = some a := ⟨l[(q - 1) / 2]'(by omega), by simp [show (q - 1) / 2 < l.length by omega]⟩
      have h1 := h ((q - 1) / 2) q a b (by omega) hql (by unfold Ch2; omega) ha hb
      exact hs.ntr _ _ _ (ih ((q - 1) / 2) (by omega) a ha) h1
theorem swap_perm {l : List α} {i j : Nat} {x y : α} (hx : l[i]? = some x) (hy : l[j]? = some y) : ((l.set i y).set j x).Perm l := by
  obtain ⟨h1, rfl⟩ := List.getElem?_eq_some_iff.1 hx
  obtain ⟨h2, rfl⟩ := List.getElem?_eq_some_iff.1 hy
  exact List.set_set_perm h1 h2
end heap
end Go.V
