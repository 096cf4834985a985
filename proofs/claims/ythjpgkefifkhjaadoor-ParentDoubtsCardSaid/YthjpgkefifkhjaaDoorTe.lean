/- parent.New: a tree of which all are up. -/
import Derived.Test.YthjpgkefifkhjaaDoorTd
namespace Go.Proofs.YthjpgkefifkhjaaDoor
open Go Go.V Go.RowKit
set_option linter.unusedVariables false
set_option linter.unusedSimpArgs false

def blkV (v : Value) : Nat := match v with
  | .pointer (some a) => a.block
  | _ => 0
theorem one_cells (vs : List Value) (cs : List Value) (h : vs.flatMap (fun v => v.cells.toList) = cs) (w : World) (e : TypeId) : (w.alloc (.cells (vs.flatMap (fun v => v.cells.toList)).toArray e)).heap[w.heap.size]? = some (.cells cs.toArray e (0, 0)) := by rw [h]; exact heap_alloc_same _ _
theorem MetAt.new (w : World) : MetAt (w.alloc (.map #[] 0)) w.heap.size [] := ⟨[], MapAt.new w _, fun c => by simp [getM]⟩
def upN (d : Int) (cs : List Int) : ND := ⟨d, cs, true, 0, []⟩
def CvT (w : World) (v : Value) (s : Nat) : Prop := ∀ b, v.ownBlock = some b → s ≤ b ∧ ∃ cur fr, w.heap[b]? = some (.cells cur 3 fr)
theorem CvT.keep {D : Nat → Prop} {w w' : World} {v : Value} {s : Nat} (h : CvT w v s) (k : Keeps D w w') (hd : ∀ b, s ≤ b → ¬ D b) : CvT w' v s := fun b hb => by
  obtain ⟨h1, cur, fr, h2⟩ := h b hb
  exact ⟨h1, cur, fr, k.heap h2 (hd b h1)⟩
/-- A node that was made just now, in blocks from s on. -/
structure Fresh (s : Nat) (n : ND) (x : NL) (w : World) : Prop where
  node : NodeAt w n x
  cv : CvT w x.cv s
  blk : s ≤ x.blk
  db : ∀ b, x.db = some b → s ≤ b
  dn : n.up = true → x.db ≠ none
theorem Fresh.keep {D : Nat → Prop} {s : Nat} {n : ND} {x : NL} {w w' : World} (h : Fresh s n x w) (k : Keeps D w w') (hd : ∀ b, s ≤ b → ¬ D b) : Fresh s n x w' :=
  ⟨h.node.keep k (hd _ h.blk) (fun b hb => hd b (h.cv b hb).1) (fun b hb => hd b (h.db b hb)), h.cv.keep k hd, h.blk, h.db, h.dn⟩
abbrev ptrN (x : NL) : Value := .pointer (some ⟨x.blk, 0, none⟩)
/-- A tree while it is made. -/
structure Grown (s : Nat) (w : World) (T : List ND) (X : List NL) : Prop where
  len : T.length = X.length
  node : ∀ (i : Nat) (n : ND) (x : NL), T[i]? = some n → X[i]? = some x → Fresh s n x w
  nb : ∀ (i j : Nat) (x y : NL), X[i]? = some x → X[j]? = some y → x.blk = y.blk → i = j
  nd : ∀ (i j : Nat) (x y : NL) (b : Nat), X[i]? = some x → X[j]? = some y → x.db = some b → y.db = some b → i = j
theorem Grown.keep {D : Nat → Prop} {s : Nat} {w w' : World} {T : List ND} {X : List NL} (h : Grown s w T X) (k : Keeps D w w') (hd : ∀ b, s ≤ b → ¬ D b) : Grown s w' T X :=
  ⟨h.len, fun i n x hn hx => (h.node i n x hn hx).keep k hd, h.nb, h.nd⟩
theorem NodeAt.lts {w : World} {n : ND} {x : NL} (h : NodeAt w n x) : x.blk < w.heap.size ∧ ∀ b, x.db = some b → b < w.heap.size := by
  refine ⟨lt_of_heap h.cells, fun b hb => ?_⟩
  have hd := h.doubt
  rw [hb] at hd
  obtain ⟨M, hM, _⟩ := hd
  exact hM.lt
theorem Grown.snoc {s z : Nat} {w w' : World} {T : List ND} {X : List NL} {n : ND} {x : NL} (h : Grown s w T X) (h' : Grown s w' T X) (hz : w.heap.size ≤ z) (hsz : s ≤ z) (hf : Fresh z n x w') : Grown s w' (T ++ [n]) (X ++ [x]) := by
  have hlts : ∀ (i : Nat) (y : NL), X[i]? = some y → y.blk < z ∧ ∀ b, y.db = some b → b < z := fun i y hy => by
    have hi := (List.getElem?_eq_some_iff.1 hy).1
    have hl := h.len
    have hN := (h.node i (T[i]'(by omega)) y (by simp [show i < T.length by omega]) hy).node.lts
    exact ⟨by omega, fun b hb => by have := hN.2 b hb; omega⟩
  have hget : ∀ (i : Nat) (y : NL), (X ++ [x])[i]? = some y → (i < X.length ∧ X[i]? = some y) ∨ (i = X.length ∧ y = x) := fun i y hy => by
    by_cases hi : i < X.length
    · rw [List.getElem?_append_left hi] at hy; exact .inl ⟨hi, hy⟩
    · rw [List.getElem?_append_right (by omega)] at hy
      have : i - X.length = 0 := by
        have := (List.getElem?_eq_some_iff.1 hy).1
        simp at this; omega
      rw [this] at hy
      simp at hy
      exact .inr ⟨by omega, hy.symm⟩
  refine ⟨by simp [h.len], fun i m y hm hy => ?_, fun i j y1 y2 h1 h2 he => ?_, fun i j y1 y2 b h1 h2 hb1 hb2 => ?_⟩
  · rcases hget i y hy with ⟨hi, hy⟩ | ⟨rfl, rfl⟩
    · rw [List.getElem?_append_left (by rw [h.len]; exact hi)] at hm
      exact h'.node i m y hm hy
    · rw [← h.len, List.getElem?_append_right (Nat.le_refl _)] at hm
      simp at hm
      subst hm
      exact ⟨hf.node, fun b hb => ⟨by have := (hf.cv b hb).1; omega, (hf.cv b hb).2⟩, by have := hf.blk; omega, fun b hb => by have := hf.db b hb; omega, hf.dn⟩
  · rcases hget i y1 h1 with ⟨hi, g1⟩ | ⟨ei, ey1⟩ <;> rcases hget j y2 h2 with ⟨hj, g2⟩ | ⟨ej, ey2⟩
    · exact h.nb i j y1 y2 g1 g2 he
    · subst ey2; have := (hlts i y1 g1).1; have := hf.blk; omega
    · subst ey1; have := (hlts j y2 g2).1; have := hf.blk; omega
    · omega
  · rcases hget i y1 h1 with ⟨hi, g1⟩ | ⟨ei, ey1⟩ <;> rcases hget j y2 h2 with ⟨hj, g2⟩ | ⟨ej, ey2⟩
    · exact h.nd i j y1 y2 b g1 g2 hb1 hb2
    · subst ey2; have := (hlts i y1 g1).2 b hb1; have := hf.db b hb2; omega
    · subst ey1; have := (hlts j y2 g2).2 b hb2; have := hf.db b hb1; omega
    · omega
/-- What lies apart, by the kinds of what lies there. -/
theorem Grown.tree {s tb lb cap n : Nat} {w : World} {T : List ND} {X : List NL} (h : Grown s w T X) (htr : w.heap[tb]? = some (.cells #[.slice (some ⟨lb, 0, none⟩) X.length cap] 59 (0, 0))) (hrow : w.ownsRow s 53 1 (.slice (some ⟨lb, 0, none⟩) X.length cap) X.length (X.map ptrN)) (hX : X.length ≤ 1000) : TreeAt w tb lb cap T X := by
  have hl := h.len
  have hnd : ∀ x ∈ X, ∃ n, Fresh s n x w := fun x hx => by
    obtain ⟨i, hi⟩ := List.getElem?_of_mem hx
    have := (List.getElem?_eq_some_iff.1 hi).1
    exact ⟨T[i]'(by omega), h.node i _ x (by simp [show i < T.length by omega]) hi⟩
  have hmap : ∀ x ∈ X, ∀ b, x.db = some b → ∃ es c, w.heap[b]? = some (.map es c) := fun x hx b hb => by
    obtain ⟨n, hf⟩ := hnd x hx
    have hd := hf.node.doubt
    rw [hb] at hd
    obtain ⟨M, ⟨es, c, hh, _⟩, _⟩ := hd
    exact ⟨es, c, hh⟩
  rcases hrow with ⟨hxl, ⟨h0, _⟩ | ⟨g, cap', cur, he, hg, hb, hn, hc, hcs, htk⟩⟩
  · cases h0
  cases he
  refine ⟨⟨h.nb, h.nd, fun x hx y hy b hb' => ⟨?_, ?_⟩, fun y hy => ⟨?_, ?_⟩, fun y hy => ⟨?_, ?_⟩, fun x hx y hy => ?_⟩, htr, ⟨cur, _, _, hb, fun i x hi => ?_⟩, hn, hl, fun i n x hn hx => (h.node i n x hn hx).node, hX⟩
  · rintro rfl
    obtain ⟨n, hf⟩ := hnd x hx
    obtain ⟨m, hm⟩ := hnd y hy
    obtain ⟨_, c1, fr, h1⟩ := hf.cv _ hb'
    rw [hm.node.cells] at h1
    simp at h1
  · intro hd
    obtain ⟨n, hf⟩ := hnd x hx
    obtain ⟨_, c1, fr, h1⟩ := hf.cv _ hb'
    obtain ⟨es, c, h2⟩ := hmap y hy b hd
    rw [h1] at h2; cases h2
  · rintro rfl
    obtain ⟨m, hm⟩ := hnd y hy
    rw [hm.node.cells] at htr
    simp at htr
  · intro hd
    obtain ⟨es, c, h2⟩ := hmap y hy _ hd
    rw [htr] at h2; cases h2
  · rintro rfl
    obtain ⟨m, hm⟩ := hnd y hy
    rw [hm.node.cells] at hb
    simp at hb
  · intro hd
    obtain ⟨es, c, h2⟩ := hmap y hy _ hd
    rw [hb] at h2; cases h2
  · intro hd
    obtain ⟨n, hf⟩ := hnd x hx
    obtain ⟨es, c, h2⟩ := hmap y hy _ hd
    rw [hf.node.cells] at h2; cases h2
  · have hlt := (List.getElem?_eq_some_iff.1 hi).1
    have h1 : (X.map ptrN)[i]? = some (ptrN x) := by simp [hi]
    rw [← htk, Nat.mul_one, List.getElem?_take_of_lt hlt] at h1
    rw [Nat.zero_add, Nat.mul_one]
    simpa using h1
end Go.Proofs.YthjpgkefifkhjaaDoor
