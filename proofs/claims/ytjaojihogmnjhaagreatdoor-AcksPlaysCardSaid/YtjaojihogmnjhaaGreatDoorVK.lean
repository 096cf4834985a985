/- Insertion sort: the list, and rows whose elements are written. -/
import Derived.Test.YtjaojihogmnjhaaGreatDoorVJ
namespace Go.V
open Go.RowKit
set_option linter.unusedVariables false
set_option linter.unusedSimpArgs false

section plain
variable {α : Type}
structure Strict (lt : α → α → Prop) : Prop where
  asym : ∀ a b, lt a b → ¬ lt b a
  ntr : ∀ a b c, ¬ lt b a → ¬ lt c b → ¬ lt c a
/-- The first m stand in order. -/
def SrtTo (lt : α → α → Prop) (m : Nat) (l : List α) : Prop := ∀ (p q : Nat) (a b : α), p < q → q < m → l[p]? = some a → l[q]? = some b → ¬ lt b a
def InsI (lt : α → α → Prop) (i j : Nat) (l : List α) : Prop := ∀ (p q : Nat) (a b : α), p < q → q ≤ i → q ≠ j → l[p]? = some a → l[q]? = some b → ¬ lt b a
theorem ins_start {lt : α → α → Prop} {i : Nat} {l : List α} (h : SrtTo lt i l) : InsI lt i i l := fun p q a b hpq hq hn ha hb => h p q a b hpq (by omega) ha hb
theorem ins_end0 {lt : α → α → Prop} {i : Nat} {l : List α} (h : InsI lt i 0 l) : SrtTo lt (i + 1) l := fun p q a b hpq hq ha hb => h p q a b hpq (by omega) (by omega) ha hb
theorem ins_end {lt : α → α → Prop} (hs : Strict lt) {i j : Nat} {l : List α} {x y : α} (h : InsI lt i (j + 1) l) (hx : l[j]? = some x) (hy : l[j + 1]? = some y) (hxy : ¬ lt y x) : SrtTo lt (i + 1) l := by
  intro p q a b hpq hq ha hb
  by_cases hqj : q = j + 1
  · subst hqj
    rw [hy] at hb
    cases hb
    by_cases hpj : p = j
    · subst hpj
      rw [hx] at ha
      cases ha
      exact hxy
    · exact hs.ntr a x y (h p j a x (by omega) (by omega) (by omega) ha hx) hxy
  · exact h p q a b hpq (by omega) hqj ha hb
theorem ins_swap {lt : α → α → Prop} (hs : Strict lt) {i j : Nat} {l : List α} {x y : α} (h : InsI lt i (j + 1) l) (hx : l[j]? = some x) (hy : l[j + 1]? = some y) (hxy : lt y x) : InsI lt i j ((l.set (j + 1) x).set j y) := by
  have hl1 := (List.getElem?_eq_some_iff.1 hy).1
  have hg : ∀ q, ((l.set (j + 1) x).set j y)[q]? = if q = j then some y else if q = j + 1 then some x else l[q]? := by
    intro q
    by_cases h1 : q = j
    · subst h1; rw [if_pos rfl, List.getElem?_set_self (by simp; omega)]
    · rw [if_neg h1, List.getElem?_set_ne (Ne.symm h1)]
      by_cases h2 : q = j + 1
      · subst h2; rw [if_pos rfl, List.getElem?_set_self (by omega)]
      · rw [if_neg h2, List.getElem?_set_ne (Ne.symm h2)]
  intro p q a b hpq hq hn ha hb
  rw [hg] at ha hb
  rw [if_neg hn] at hb
  by_cases hq1 : q = j + 1
  · rw [if_pos hq1] at hb
    cases hb
    by_cases hp : p = j
    · rw [if_pos hp] at ha
      cases ha
      exact hs.asym _ _ hxy
    · rw [if_neg hp, if_neg (by omega)] at ha
      exact h p j a x (by omega) (by omega) (by omega) ha hx
  · rw [if_neg hq1] at hb
    by_cases hp : p = j
    · rw [if_pos hp] at ha
      cases ha
      exact h (j + 1) q y b (by omega) hq (by omega) hy hb
    · rw [if_neg hp] at ha
      by_cases hp1 : p = j + 1
      · rw [if_pos hp1] at ha
        cases ha
        exact h j q x b (by omega) hq (by omega) hx hb
      · rw [if_neg hp1] at ha
        exact h p q a b hpq hq hq1 ha hb
theorem ins_perm {j : Nat} {l : List α} {x y : α} (hx : l[j]? = some x) (hy : l[j + 1]? = some y) : ((l.set (j + 1) x).set j y).Perm l := by
  obtain ⟨h1, rfl⟩ := List.getElem?_eq_some_iff.1 hx
  obtain ⟨h2, rfl⟩ := List.getElem?_eq_some_iff.1 hy
  exact List.set_set_perm h2 h1
theorem srt_pairwise {lt : α → α → Prop} {l : List α} (h : SrtTo lt l.length l) : l.Pairwise fun a b => ¬ lt b a := by
  rw [List.pairwise_iff_getElem]
  intro i j hi hj hij
  exact h i j _ _ hij hj (by simp) (by simp)
end plain
section ops
variable {P : Program} {ops : Array Oper} {Q : Post} {ds : List Deferred} {f : Env} {w w' : World} {rest : List Oper}
variable {d : Option Nat} {ty : TypeId} {pos : String} {af : Array Edge} {g : Option (Nat × Bool)}
/-- A piece of a block is written. -/
theorem wr_storePart {t : TypeId} {z : Value} {n by' : Nat} {x y : Operand} {b o : Nat} {c : Array Value} {e : TypeId} {cs : List Value} [I : Info P t z n by'] (hw : wantedE ops f ⟨d, .store t x y, ty, pos, af, g⟩ = true) (hx : ev f x = .pointer (some ⟨b, o, none⟩)) (hy : ev f y = .agg cs.toArray)
    (h1 : ∀ u ∈ cs, u.oneCell' = true) (hb : w.heap[b]? = some (.cells c e (0, 0))) (hl : cs.length = n) (hc : o + n ≤ c.size) (kk : Wr P ops Q ds rest (setO f d undef) (w.putObj b (.cells (c.toList.take o ++ cs ++ c.toList.drop (o + n)).toArray e (0, 0)))) : Wr P ops Q ds (⟨d, .store t x y, ty, pos, af, g⟩ :: rest) f w := by
  refine wr_u (s := Instr.storeAt t (ev f x) (ev f y)) (w' := w.putObj b (.cells (c.toList.take o ++ cs ++ c.toList.drop (o + n)).toArray e (0, 0))) hw rfl ?_ kk
  rw [hx, hy]
  simp only [Instr.storeAt, Instr.sureAddr, storeVar, Sem.run_bind, Sem.run_pure, Result.andThen_ok, run_sizeOf' I, Value.cells, List.size_toArray, hl, ne_eq, not_true_eq_false, if_false]
  have hst := run_storeCells_at P b o e cs 0 c w hb (by omega) h1
  rw [hst, hl, Nat.add_zero]
  congr 1
  obtain ⟨hlt, hwb⟩ := Array.getElem?_eq_some_iff.1 hb
  unfold World.setRow World.putObj
  congr 1
  apply Array.ext_getElem?
  intro i
  rw [Array.getElem?_modify, Array.getElem?_setIfInBounds]
  by_cases e : b = i
  · subst e; simp [hlt, hwb]
  · simp [e]
end ops
theorem flat_set {α : Type} {G : α → List Value} {k : Nat} (hk : ∀ a, (G a).length = k) : ∀ (l : List α) (i : Nat) (a : α), i < l.length → (l.set i a).flatMap G = (l.flatMap G).take (i * k) ++ G a ++ (l.flatMap G).drop (i * k + k)
  | [], i, a, h => by simp at h
  | x :: l, 0, a, h => by
    rw [List.set_cons_zero, List.flatMap_cons, List.flatMap_cons, Nat.zero_mul, Nat.zero_add, List.take_zero, List.nil_append, List.drop_left' (hk x)]
  | x :: l, i + 1, a, h => by
    have hx : (i + 1) * k = (G x).length + i * k := by rw [hk, Nat.add_mul, Nat.one_mul, Nat.add_comm]
    rw [List.set_cons_succ, List.flatMap_cons, List.flatMap_cons, flat_set hk l i a (by simpa using h), hx, List.take_append, Nat.add_assoc, List.drop_append]
    have e1 : (G x).take ((G x).length + i * k) = G x := List.take_of_length_le (by omega)
    have e2 : (G x).drop ((G x).length + (i * k + k)) = [] := List.drop_of_length_le (by omega)
    simp [List.append_assoc, e1, e2]
theorem own_set {α : Type} {G : α → List Value} {k : Nat} (hk : ∀ a, (G a).length = k) {w : World} {base n cap b i : Nat} {T : TypeId} {l : List α} {cur : Array Value} (h : w.ownsRow base T k (.slice (some ⟨b, 0, none⟩) n cap) n (l.flatMap G)) (hl : l.length = n) (hb : w.heap[b]? = some (.cells cur T (0, 0))) (hi : i < n) (a : α) :
    (w.putObj b (.cells (cur.toList.take (0 + i * k) ++ G a ++ cur.toList.drop (0 + i * k + k)).toArray T (0, 0))).ownsRow base T k (.slice (some ⟨b, 0, none⟩) n cap) n ((l.set i a).flatMap G) ∧ i * k + k ≤ cur.size := by
  obtain ⟨hxl, ⟨h0, _⟩ | ⟨b', cap', cur', he, hbb, hcb, hnc, hcm, hsz, htk⟩⟩ := h
  · cases h0
  cases he
  rw [hb] at hcb
  cases hcb
  have hmul : (i + 1) * k ≤ n * k := Nat.mul_le_mul_right k hi
  have hmul2 : n * k ≤ cap * k := Nat.mul_le_mul_right k hnc
  rw [Nat.add_mul, Nat.one_mul] at hmul
  have hcs : cur.toList.length = cap * k := by simp [hsz]
  refine ⟨⟨by rw [flat_len hk, List.length_set, hl], .inr ⟨b, cap, _, rfl, hbb, World.putObj_heap_same (lt_of_heap hb), hnc, hcm, ?_, ?_⟩⟩, by omega⟩
  · simp only [List.size_toArray, List.length_append, List.length_take, List.length_drop, hk, hcs]
    omega
  · rw [flat_set hk l i a (by omega), ← htk, Nat.zero_add]
    have hlt : (cur.toList.take (i * k) ++ G a).length = i * k + k := by rw [List.length_append, List.length_take, hk, hcs]; omega
    rw [List.take_append, hlt, List.take_of_length_le (by rw [hlt]; omega)]
    congr 1
    · rw [List.take_take]
      congr 2
      omega
    · rw [List.drop_take]
end Go.V
