/- Drawn regions that lay new blocks and fill them, and write one that stood before: what survives. -/
import Derived.Test.YtajajahofkialaaGreatDoorVP
namespace Go.V.F
open Go.RowKit Go.V.E
set_option linter.unusedVariables false
set_option linter.unusedSimpArgs false

/-- Number s1 writes block b; s2 one from n0 on of type T2; s3 one of type T3. -/
def E3 (n0 b s1 s2 : Nat) (T2 : TypeId) (s3 : Nat) (T3 : TypeId) (i : Nat) (w : World) (q : Nat) : Prop :=
  (i = s1 ∧ Nat.beq s1 1000 = false ∧ q = b) ∨ (i = s2 ∧ n0 ≤ q ∧ ∃ cs fr, w.heap[q]? = some (.cells cs T2 fr)) ∨ (i = s3 ∧ n0 ≤ q ∧ ∃ cs fr, w.heap[q]? = some (.cells cs T3 fr))
def E30 (b s1 : Nat) (i q : Nat) : Prop := i = s1 ∧ Nat.beq s1 1000 = false ∧ q = b
section
variable {n0 b s1 s2 s3 i B : Nat} {T T2 T3 : TypeId} {w0 w w' : World}
theorem e3_E0 (hn : w0.heap.size ≤ n0) : ∀ (j : Nat) (w' : World) (q : Nat), q < w0.heap.size → E3 n0 b s1 s2 T2 s3 T3 j w' q → E30 b s1 j q := by
  rintro j w' q hq (h | ⟨_, h, _⟩ | ⟨_, h, _⟩)
  · exact h
  · omega
  · omega
theorem e3_mon (h : (Nat.beq s1 1000 || (Nat.beq i s1 || bef B s1 i)) = true) (k : Keeps (monE (E30 b s1) B i) w0 w) : Keeps NoB w0 w := k.mono fun q _ hq => by
  obtain ⟨j, ⟨rfl, h0, _⟩, hb⟩ := hq
  rw [hb, h0] at h; cases h
theorem e3_all0 (k : Keeps (allE (E30 b 1000)) w0 w) : Keeps NoB w0 w := k.mono fun q _ hq => by
  obtain ⟨j, _, h, _⟩ := hq
  cases h
theorem e3_mon' (k : Keeps (monE (E30 b s1) B i) w0 w) : Keeps (· = b) w0 w := k.mono fun q _ hq => by
  obtain ⟨j, ⟨_, _, h⟩, _⟩ := hq
  exact h
theorem e3_all (k : Keeps (allE (E30 b s1)) w0 w) : Keeps (· = b) w0 w := k.mono fun q _ hq => by
  obtain ⟨j, _, _, h⟩ := hq
  exact h
theorem heap_neT {q p : Nat} {c c' : Array Value} {T' : TypeId} {fr fr' : Nat × Nat} (h : w.heap[p]? = some (.cells c T fr)) (hq : w.heap[q]? = some (.cells c' T' fr')) (hT : T ≠ T') : p ≠ q := by
  rintro rfl
  rw [hq] at h
  injection h with h
  injection h with _ h
  exact hT h.symm
theorem own_neT {base n sz q : Nat} {T' : TypeId} {v : Value} {xs : List Value} {c : Array Value} {fr : Nat × Nat} (h : w.ownsRow base T sz v n xs) (hq : w.heap[q]? = some (.cells c T' fr)) (hT : T ≠ T') : ∀ b, v.ownBlock = some b → b ≠ q := by
  intro b hb e
  rcases h.2 with ⟨rfl, _⟩ | ⟨g, cap, cur, rfl, _, hg, _⟩
  · simp [Value.ownBlock] at hb
  · simp [Value.ownBlock] at hb
    subst hb
    exact heap_neT hg hq hT e
theorem own_geF {base sz n : Nat} {v : Value} {xs : List Value} (h : w.ownsRow base T sz v n xs) {q : Nat} (hb : v.ownBlock = some q) : base ≤ q := by
  rcases h.2 with ⟨rfl, _⟩ | ⟨g, cap, cur, rfl, hg, _⟩
  · cases hb
  · cases hb; exact hg
/-- Rows of another type, behind b. -/
theorem own_E3 {base sz n : Nat} {v : Value} {xs : List Value} (h : w.ownsRow base T sz v n xs) (hb : b < base) (h2 : T ≠ T2) (h3 : T ≠ T3) (k : Kp (othE (E3 n0 b s1 s2 T2 s3 T3) i w) w w') : w'.ownsRow base T sz v n xs :=
  own_keep h k.1 fun q hq e => by
    obtain ⟨j, _, e | ⟨_, _, cs, fr, e⟩ | ⟨_, _, cs, fr, e⟩⟩ := e
    · have := own_geF h hq; omega
    · exact own_neT h e h2 q hq rfl
    · exact own_neT h e h3 q hq rfl
theorem blk_E3 {p : Nat} {c : Array Value} {fr : Nat × Nat} (h : w.heap[p]? = some (.cells c T fr)) (hp : b ≠ p) (h2 : T ≠ T2) (h3 : T ≠ T3) (k : Kp (othE (E3 n0 b s1 s2 T2 s3 T3) i w) w w') : w'.heap[p]? = some (.cells c T fr) :=
  k.1.heap h fun e => by
    obtain ⟨j, _, e | ⟨_, _, cs, fr, e⟩ | ⟨_, _, cs, fr, e⟩⟩ := e
    · exact hp e.2.2.symm
    · exact heap_neT h e h2 rfl
    · exact heap_neT h e h3 rfl
/-- What s1 left. -/
theorem blk1_E3 {o : Obj} (h : w.heap[b]? = some o) (hb : b < n0) (k : Kp (othE (E3 n0 b s1 s2 T2 s3 T3) s1 w) w w') : w'.heap[b]? = some o :=
  k.1.heap h fun e => by
    obtain ⟨j, hj, e | ⟨_, e, _⟩ | ⟨_, e, _⟩⟩ := e
    · exact hj e.1
    · omega
    · omega
/-- What s2, s3 left. -/
theorem blk2_E3 {p : Nat} {c : Array Value} {fr : Nat × Nat} (h : w.heap[p]? = some (.cells c T2 fr)) (hp : b ≠ p) (h3 : T2 ≠ T3) (k : Kp (othE (E3 n0 b s1 s2 T2 s3 T3) s2 w) w w') : w'.heap[p]? = some (.cells c T2 fr) :=
  k.1.heap h fun e => by
    obtain ⟨j, hj, e | ⟨e, _⟩ | ⟨_, _, cs, fr, e⟩⟩ := e
    · exact hp e.2.2.symm
    · exact hj e
    · exact heap_neT h e h3 rfl
theorem blk3_E3 {p : Nat} {c : Array Value} {fr : Nat × Nat} (h : w.heap[p]? = some (.cells c T3 fr)) (hp : b ≠ p) (h2 : T3 ≠ T2) (k : Kp (othE (E3 n0 b s1 s2 T2 s3 T3) s3 w) w w') : w'.heap[p]? = some (.cells c T3 fr) :=
  k.1.heap h fun e => by
    obtain ⟨j, hj, e | ⟨_, _, cs, fr, e⟩ | ⟨e, _⟩⟩ := e
    · exact hp e.2.2.symm
    · exact heap_neT h e h2 rfl
    · exact hj e
/-- A new block, whatever it holds. -/
def Fr (w : World) (n0 : Nat) (T : TypeId) (z p : Nat) : Prop := n0 ≤ p ∧ ∃ cs : Array Value, w.heap[p]? = some (.cells cs T (0, 0)) ∧ cs.size = z
theorem Fr.keep {D : Nat → Prop} {z p : Nat} (h : Fr w n0 T z p) (k : Kp D w w') : Fr w' n0 T z p := by
  obtain ⟨h1, cs, h2, h3⟩ := h
  obtain ⟨cs', h4, h5⟩ := k.2 _ _ _ _ h2
  exact ⟨h1, cs', h4, h5.trans h3⟩
end
end Go.V.F
namespace Go.V
open Go.RowKit
/-- A tuple's parts; a struct's cells. -/
def tupI (v : Value) (i : Nat) : Value := match v with
  | .tuple a => a.getD i undef
  | _ => undef
def cellsV : Value → Array Value
  | .agg a => a
  | _ => #[]
end Go.V
