/- The calculus, ninth text: rows of structs. -/
import Derived.Test.YthlbgeonobicbaaDoorV8
namespace Go.V
open Go.RowKit
set_option linter.unusedVariables false
set_option linter.unusedSimpArgs false

theorem flat_len {α β : Type} {g : α → List β} {k : Nat} (hk : ∀ a, (g a).length = k) : ∀ l : List α, (l.flatMap g).length = l.length * k
  | [] => by simp
  | a :: l => by
    rw [List.flatMap_cons, List.length_append, hk a, flat_len hk l, List.length_cons, Nat.add_mul, Nat.one_mul, Nat.add_comm]
theorem flat_get {α β : Type} {g : α → List β} {k : Nat} (hk : ∀ a, (g a).length = k) : ∀ (l : List α) (i : Nat) (a : α) (j : Nat), l[i]? = some a → j < k → (l.flatMap g)[i * k + j]? = (g a)[j]?
  | [], i, a, j, h, _ => by simp at h
  | b :: l, 0, a, j, h, hj => by
    simp at h; subst h
    rw [List.flatMap_cons, Nat.zero_mul, Nat.zero_add, List.getElem?_append_left (by rw [hk]; exact hj)]
  | b :: l, i + 1, a, j, h, hj => by
    simp only [List.getElem?_cons_succ] at h
    have e : (i + 1) * k + j = (g b).length + (i * k + j) := by rw [hk, Nat.add_mul, Nat.one_mul]; omega
    rw [List.flatMap_cons, e, List.getElem?_append_right (by omega), Nat.add_sub_cancel_left]
    exact flat_get hk l i a j h hj
theorem SlR.shape {w : World} {sz n : Nat} {v : Value} {cs : List Value} (h : SlR w sz v n cs) : ∃ a c, v = .slice a n c ∧ n ≤ c ∧ (0 < n → ∃ b o, a = some ⟨b, o, none⟩ ∧ ∃ cur e fr, w.heap[b]? = some (.cells cur e fr) ∧ ∀ j, j < n * sz → cur[o + j]? = cs[j]?) := by
  obtain ⟨hl, a, c, rfl, hc, h⟩ := h
  refine ⟨a, c, rfl, hc, fun hn => ?_⟩
  rcases h with ⟨rfl, _⟩ | ⟨b, o, cur, e, fr, rfl, hb, hr⟩
  · omega
  · exact ⟨b, o, rfl, cur, e, fr, hb, hr⟩
/-- The cells of an element. -/
theorem cell_elem {α : Type} {g : α → List Value} {k n i j o : Nat} {l : List α} {cur : Array Value} {a : α} {v : Value} (hk : ∀ a, (g a).length = k) (hr : ∀ j, j < n * k → cur[o + j]? = (l.flatMap g)[j]?) (hn : i < n) (ha : l[i]? = some a) (hv : (g a)[j]? = some v) : cur[o + i * k + j]? = some v := by
  have hj : j < k := by rw [← hk a]; exact (List.getElem?_eq_some_iff.1 hv).1
  have hlt : i * k + j < n * k := by
    have : (i + 1) * k ≤ n * k := Nat.mul_le_mul_right k hn
    rw [Nat.add_mul, Nat.one_mul] at this; omega
  rw [Nat.add_assoc, hr _ hlt, flat_get hk l i a j ha hj, hv]
section ops
variable {P : Program} {ops : Array Oper} {Q : Post} {ds : List Deferred} {f : Env} {w w' : World} {rest : List Oper}
variable {d : Option Nat} {ty : TypeId} {pos : String} {af : Array Edge} {g : Option (Nat × Bool)}
/-- An element of a row of structs is read. -/
theorem wr_loadElem {α : Type} {G : α → List Value} {t : TypeId} {D : TypeDesc} {z : Value} {k n i by' : Nat} {x : Operand} {b o : Nat} {l : List α} {a : α} {cur : Array Value} {e : TypeId} {fr : Nat × Nat} {vs : Array Value} [U : Und P t D] [I : Info P t z k by'] (hw : wantedE ops f ⟨d, .load t x, ty, pos, af, g⟩ = true) (hD : isAggD D = true)
    (hk : ∀ a, (G a).length = k) (hx : ev f x = .pointer (some ⟨b, o + i * k, none⟩)) (hb : w.heap[b]? = some (.cells cur e fr)) (hr : ∀ j, j < n * k → cur[o + j]? = (l.flatMap G)[j]?) (hn : i < n) (ha : l[i]? = some a) (hvs : (G a).toArray = vs)
    (kk : Wr P ops Q ds rest (setO f d (.agg vs)) w) : Wr P ops Q ds (⟨d, .load t x, ty, pos, af, g⟩ :: rest) f w := by
  subst hvs
  exact wr_loadAgg hw hD hx (hk a) (fun j u h => cell_of_heap hb (cell_elem hk hr hn ha h)) kk
theorem wr_sl_from {t : TypeId} {x lo : Operand} {l : List UInt8} {i : Nat} {k : IntKind} [U : Und P t .string] (hw : wantedE ops f ⟨d, .slice t x (some lo) none none, ty, pos, af, g⟩ = true) (hx : ev f x = S l) (hy : ev f lo = .int k (i : Int)) (hi : i ≤ l.length)
    (kk : Wr P ops Q ds rest (setO f d (S (l.drop i))) w) : Wr P ops Q ds (⟨d, .slice t x (some lo) none none, ty, pos, af, g⟩ :: rest) f w :=
  wr_sl_str (i := i) (j := l.length) hw hx (.inl ⟨rfl, rfl⟩) (.inr ⟨k, congrArg some hy, hi⟩) (by rw [List.take_of_length_le (by simp)]; exact kk)
theorem wr_sl_to {t : TypeId} {x hi : Operand} {l : List UInt8} {j : Nat} {k : IntKind} [U : Und P t .string] (hw : wantedE ops f ⟨d, .slice t x none (some hi) none, ty, pos, af, g⟩ = true) (hx : ev f x = S l) (hy : ev f hi = .int k (j : Int)) (hj : j ≤ l.length)
    (kk : Wr P ops Q ds rest (setO f d (S (l.take j))) w) : Wr P ops Q ds (⟨d, .slice t x none (some hi) none, ty, pos, af, g⟩ :: rest) f w :=
  wr_sl_str (i := 0) (j := j) hw hx (.inr ⟨k, congrArg some hy, hj⟩) (.inl ⟨rfl, rfl⟩) (by simpa using kk)
theorem wr_quoN {t t' : TypeId} {x y : Operand} {k : IntKind} {n m : Nat} (hw : wantedE ops f ⟨d, .binOp .quo t x y t', ty, pos, af, g⟩ = true) (hx : ev f x = .int k (n : Int)) (hy : ev f y = .int k (m : Int)) (hb : m ≠ 0) (hc : k.wrap ((n / m : Nat) : Int) = ((n / m : Nat) : Int))
    (kk : Wr P ops Q ds rest (setO f d (.int k ((n / m : Nat) : Int))) w) : Wr P ops Q ds (⟨d, .binOp .quo t x y t', ty, pos, af, g⟩ :: rest) f w :=
  wr_quo hw hx hy (by omega) (by rw [Int.tdiv_eq_ediv_of_nonneg (by omega), ← Int.natCast_ediv]; exact hc) kk
theorem wr_remN {t t' : TypeId} {x y : Operand} {k : IntKind} {n m : Nat} (hw : wantedE ops f ⟨d, .binOp .rem t x y t', ty, pos, af, g⟩ = true) (hx : ev f x = .int k (n : Int)) (hy : ev f y = .int k (m : Int)) (hb : m ≠ 0)
    (kk : Wr P ops Q ds rest (setO f d (.int k ((n % m : Nat) : Int))) w) : Wr P ops Q ds (⟨d, .binOp .rem t x y t', ty, pos, af, g⟩ :: rest) f w :=
  wr_rem hw hx hy (by omega) (by rw [Int.tmod_eq_emod_of_nonneg (by omega), ← Int.natCast_emod]) kk
end ops
section
variable {P : Program} {f : Env} {w : World} {fn : Func} {R : Value → World → Prop}
theorem resv_nil : ResV P f w [] [] := trivial
theorem resv_tmp {t : Nat} {v : Value} {rs : List ResultVar} {vs : List Value} (h : f t = v) (hr : ResV P f w rs vs) : ResV P f w (.tmp t :: rs) (v :: vs) := ⟨h, hr⟩
theorem resv_cell {a t b : Nat} {D : TypeDesc} {v : Value} {c : Array Value} {e : TypeId} {fr : Nat × Nat} {rs : List ResultVar} {vs : List Value} [U : Und P t D] (hD : isAggD D = false) (h : f a = .pointer (some ⟨b, 0, none⟩)) (hb : w.heap[b]? = some (.cells c e fr)) (hv : c[0]? = some v) (hr : ResV P f w rs vs) : ResV P f w (.cell a t :: rs) (v :: vs) :=
  ⟨⟨_, h, run_load1 U hD (cell_of_heap hb hv)⟩, hr⟩
theorem resv_cells {a t b n by' : Nat} {D : TypeDesc} {z : Value} {cs : List Value} {e : TypeId} {fr : Nat × Nat} {rs : List ResultVar} {vs : List Value} [U : Und P t D] [I : Info P t z n by'] (hD : isAggD D = true) (h : f a = .pointer (some ⟨b, 0, none⟩)) (hb : w.heap[b]? = some (.cells cs.toArray e fr)) (hl : cs.length = n) (hr : ResV P f w rs vs) : ResV P f w (.cell a t :: rs) (.agg cs.toArray :: vs) :=
  ⟨⟨_, h, run_loadAgg U I hD hl (fun j u h => cell_of_heap hb (by simpa using h))⟩, hr⟩
theorem leaveN {vs : List Value} (h : ResV P f w fn.results.toList vs) (hR : R (packV vs) w) : Leave P fn R [] f w := ⟨vs, h, hR⟩
end
end Go.V
