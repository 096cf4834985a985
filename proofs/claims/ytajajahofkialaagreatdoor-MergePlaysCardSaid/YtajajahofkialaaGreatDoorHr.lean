/- What many want, of one type: the sets in an array, their union, who has a name. -/
import Derived.Test.YtajajahofkialaaGreatDoorIm
namespace Go.Proofs.YtajajahofkialaaGreatDoor
open Go Go.V Go.RowKit
set_option linter.unusedVariables false
set_option linter.unusedSimpArgs false

/-- A deed. -/
structure DL where
  kind : Nat
  id : Int
  ty : Int
  near : Bool
  lv : Value
  ll : List Nat
  many : Nat
  name : Nat
def GDl (x : DL) : List Value := [.int .u8 ((x.kind : Nat) : Int), .int .i64 x.id, .int .i64 x.ty, .bool x.near, x.lv, .int .u8 ((x.many : Nat) : Int), .int .u8 ((x.name : Nat) : Int)]
theorem GDl_len (x : DL) : (GDl x).length = 7 := rfl
structure dlOk (w : World) (x : DL) : Prop where
  kind : x.kind < 256
  id : -9223372036854775808 ≤ x.id ∧ x.id < 9223372036854775808
  ty : -9223372036854775808 ≤ x.ty ∧ x.ty < 9223372036854775808
  many : x.many < 256
  name : x.name < 256
  row : SlR w 1 x.lv x.ll.length (IB x.ll)
  ll : ∀ y ∈ x.ll, y < 256

theorem wr_storePart {P : Program} {ops : Array Oper} {Q : Post} {ds : List Deferred} {f : Env} {w : World} {rest : List Oper} {d : Option Nat} {ty : TypeId} {pos : String} {af : Array Edge} {g : Option (Nat × Bool)} {t : TypeId} {z : Value} {n by' : Nat} {x y : Operand} {b o : Nat} {c : Array Value} {e : TypeId} {cs : List Value} [I : Info P t z n by'] (hw : wantedE ops f ⟨d, .store t x y, ty, pos, af, g⟩ = true) (hx : ev f x = .pointer (some ⟨b, o, none⟩)) (hy : ev f y = .agg cs.toArray)
    (h1 : ∀ u ∈ cs, u.oneCell' = true) (hb : w.heap[b]? = some (.cells c e (0, 0))) (hl : cs.length = n) (hc : o + n ≤ c.size) (kk : Wr P ops Q ds rest (setO f d undef) (w.putObj b (.cells (c.toList.take o ++ cs ++ c.toList.drop (o + n)).toArray e (0, 0)))) : Wr P ops Q ds (⟨d, .store t x y, ty, pos, af, g⟩ :: rest) f w := by
  refine wr_u (s := Instr.storeAt t (ev f x) (ev f y)) (w' := w.putObj b (.cells (c.toList.take o ++ cs ++ c.toList.drop (o + n)).toArray e (0, 0))) hw rfl ?_ kk
  rw [hx, hy]
  simp only [Instr.storeAt, Instr.sureAddr, storeVar, Sem.run_bind, Sem.run_pure, Result.andThen_ok, run_sizeOf' I, Value.cells, List.size_toArray, hl, ne_eq, not_true_eq_false, if_false]
  have hst := run_storeCells_at P b o e cs 0 c w hb (by omega) h1
  rw [hst, hl, Nat.add_zero]
  congr 1
  obtain ⟨hlt, hwb⟩ := Array.getElem?_eq_some_iff.1 hb
  unfold World.setRow World.putObj
  congr 1
  apply Array.ext_getElem?
  intro i
  rw [Array.getElem?_modify, Array.getElem?_setIfInBounds]
  by_cases e : b = i
  · subst e; simp [hlt, hwb]
  · simp [e]
theorem wr_field {P : Program} {ops : Array Oper} {Q : Post} {ds : List Deferred} {f : Env} {w : World} {rest : List Oper} {d : Option Nat} {ty : TypeId} {pos : String} {af : Array Edge} {g : Option (Nat × Bool)} {t i : Nat} {x : Operand} {k m : Nat} {ft : TypeId} {D : TypeDesc} {cs : Array Value} {v : Value} [F : Fld P t i k ft m] [U : Und P ft D]
    (hw : wantedE ops f ⟨d, .field t x i, ty, pos, af, g⟩ = true) (hD : isAggD D = false) (hx : ev f x = .agg cs) (hv : cs[k]? = some v) (kk : Wr P ops Q ds rest (setO f d v) w) : Wr P ops Q ds (⟨d, .field t x i, ty, pos, af, g⟩ :: rest) f w := by
  obtain ⟨fs, fl, h1, h2, h3, h4, _⟩ := F.h
  refine wr_v (s := Instr.field t (ev f x) i) hw rfl ?_ kk
  rw [hx]
  have hu := run_und (w := w) (⟨h1⟩ : Und P t (.struct fs))
  have hp := run_part1 (P := P) (w := w) (t := fl.type) (cs := cs) (o := fl.offset) (D := D) (by rw [h4]; exact U.h) hD (by rw [h3]; exact hv)
  simp only [Instr.field, Sem.run_bind, hu, Result.andThen_ok, h2, asAgg, Sem.run_pure, hp]

theorem flat_set (x : SE) : ∀ (L : List SE) (i : Nat), i < L.length → (L.flatMap GSt).take (0 + i * 2) ++ GSt x ++ (L.flatMap GSt).drop (0 + i * 2 + 2) = (L.set i x).flatMap GSt
  | [], i, h => absurd h (by simp)
  | a :: L, 0, _ => by
    rw [List.set_cons_zero, List.flatMap_cons, List.flatMap_cons]
    rfl
  | a :: L, i + 1, h => by
    have ih := flat_set x L i (by simp at h; omega)
    rw [List.set_cons_succ, List.flatMap_cons, List.flatMap_cons, ← ih]
    rw [show 0 + (i + 1) * 2 = (0 + i * 2) + 2 by omega, show (0 + i * 2) + 2 + 2 = (0 + i * 2 + 2) + 2 by omega]
    rfl
/-- What the array of sets tells. -/
structure WA (w : World) (b : Nat) (Wn : WF) : Prop where
  at' : ∃ L : List SE, L.length = 7 ∧ w.heap[b]? = some (.cells (L.flatMap GSt).toArray 69 (0, 0)) ∧ (∀ n : Nat, n < 7 → ∃ v, L[n]? = some (Wn ((n : Int), ((3 : Nat) : Int)), v)) ∧ ∀ x ∈ L, SlR w 1 x.2 x.1.2.length (SL x.1.2)
theorem WA.keep {w w' : World} {b : Nat} {Wn : WF} (h : WA w b Wn) (k : Keeps NoB w w') : WA w' b Wn := by
  obtain ⟨L, h1, h2, h3, h4⟩ := h.at'
  exact ⟨L, h1, k.heap h2 (fun h => h), h3, fun x hx => (h4 x hx).keep k (fun _ _ h => h)⟩
theorem SE_R {w : World} {s : PS} {v : Value} (h : SlR w 1 v s.2.length (SL s.2)) : SetR w s (SetV s.1 v) := ⟨v, rfl, h⟩
theorem WA.keepM {D : Nat → Prop} {w w' : World} {b : Nat} {Wn : WF} (h : WA w b Wn) (k : Keeps D w w') (hD : ∀ b, D b → ∀ c t r, w.heap[b]? ≠ some (.cells c t r)) : WA w' b Wn := by
  obtain ⟨L, h1, h2, h3, h4⟩ := h.at'
  exact ⟨L, h1, heap_keepM h2 k hD, h3, fun x hx => ((SE_R (h4 x hx)).keepM k hD).row⟩
theorem WA.put {w w' : World} {b q : Nat} {Wn : WF} {c : Array Value} {T : TypeId} {fr : Nat × Nat} (h : WA w b Wn) (k : Keeps (· = q) w w') (hq : w.heap[q]? = some (.cells c T fr)) (hc : ∀ (j : Nat) (t : TT), c[j]? ≠ some (S t)) (hn : b ≠ q) : WA w' b Wn := by
  obtain ⟨L, h1, h2, h3, h4⟩ := h.at'
  exact ⟨L, h1, k.heap h2 hn, h3, fun x hx => ((SE_R (h4 x hx)).put k hq hc).row⟩
/-- What is wanted: of one type, of six ids, little each. -/
structure UW (Wn : WF) : Prop where
  fine : ∀ t, Fine (Wn t)
  len : ∀ t, (Wn t).2.length ≤ 10
  off : ∀ t : TY, ¬ (1 ≤ t.1 ∧ t.1 ≤ 6 ∧ t.2 = 3) → Wn t = noneP
theorem UW.no : UW noW := ⟨noW_fine, fun _ => by simp [noW, noneP], fun _ _ => rfl⟩
theorem UW.upd {Wn : WF} (h : UW Wn) {id : Nat} (h1 : 1 ≤ id) (h6 : id ≤ 6) {s : PS} (hs : Fine s) (hl : s.2.length ≤ 10) : UW (updW Wn ((id : Int), ((3 : Nat) : Int)) s) where
  fine := updW_fine h.fine _ hs
  len t := by
    unfold updW
    split
    · exact hl
    · exact h.len t
  off t ht := by
    rw [updW_ne _ (fun e => ht (by rw [e]; refine ⟨?_, ?_, rfl⟩ <;> dsimp only <;> omega)), h.off t ht]
def six (Wn : WF) : List PS := [Wn (((1 : Nat) : Int), ((3 : Nat) : Int)), Wn (((2 : Nat) : Int), ((3 : Nat) : Int)), Wn (((3 : Nat) : Int), ((3 : Nat) : Int)), Wn (((4 : Nat) : Int), ((3 : Nat) : Int)), Wn (((5 : Nat) : Int), ((3 : Nat) : Int)), Wn (((6 : Nat) : Int), ((3 : Nat) : Int))]
theorem mem_listPU (l : List PS) (x : TT) : x ∈ listP (unionP l) ↔ ∃ s ∈ l, x ∈ listP s := by
  rw [mem_listP, mem_unionP]
  constructor
  · rintro (⟨h, rfl⟩ | ⟨s, hs, h⟩)
    · have h : l.any (·.1) = true := h
      obtain ⟨s, hs, h⟩ := List.any_eq_true.1 h
      exact ⟨s, hs, (mem_listP _ _).2 (.inl ⟨h, rfl⟩)⟩
    · exact ⟨s, hs, (mem_listP _ _).2 (.inr h)⟩
  · rintro ⟨s, hs, h⟩
    rcases (mem_listP _ _).1 h with ⟨h9, e⟩ | h9
    · exact .inl ⟨List.any_eq_true.2 ⟨s, hs, h9⟩, e⟩
    · exact .inr ⟨s, hs, h9⟩
theorem six_fine {Wn : WF} (h : UW Wn) : ∀ s ∈ six Wn, Fine s := by
  intro s hs
  simp only [six, List.mem_cons, List.not_mem_nil, or_false] at hs
  rcases hs with rfl | rfl | rfl | rfl | rfl | rfl <;> exact h.fine _
theorem six_union {Wn : WF} (h : UW Wn) : unionK Wn 3 = unionP (six Wn) := unionK_eq (unionP_fine (six_fine h)) fun x => by
  rw [mem_listPU, mem_allL]
  constructor
  · rintro ⟨i, _, hi⟩
    by_cases h6 : 1 ≤ i ∧ i ≤ 6
    · refine ⟨_, ?_, hi⟩
      have : i = 1 ∨ i = 2 ∨ i = 3 ∨ i = 4 ∨ i = 5 ∨ i = 6 := by omega
      rcases this with rfl | rfl | rfl | rfl | rfl | rfl <;> simp [six]
    · rw [h.off _ (by dsimp only; omega)] at hi
      exact absurd hi (by simp [noneP, listP])
  · rintro ⟨s, hs, hx⟩
    simp only [six, List.mem_cons, List.not_mem_nil, or_false] at hs
    rcases hs with rfl | rfl | rfl | rfl | rfl | rfl <;> exact ⟨_, by decide, hx⟩
theorem six_le {Wn : WF} (h : UW Wn) : (unionK Wn 3).2.length ≤ 60 := by
  rw [six_union h]
  refine Nat.le_trans (unionP_le _) ?_
  simp only [six, List.flatMap_cons, List.flatMap_nil, List.length_append, List.length_nil]
  have h1 := h.len (((1 : Nat) : Int), ((3 : Nat) : Int))
  have h2 := h.len (((2 : Nat) : Int), ((3 : Nat) : Int))
  have h3 := h.len (((3 : Nat) : Int), ((3 : Nat) : Int))
  have h4 := h.len (((4 : Nat) : Int), ((3 : Nat) : Int))
  have h5 := h.len (((5 : Nat) : Int), ((3 : Nat) : Int))
  have h6 := h.len (((6 : Nat) : Int), ((3 : Nat) : Int))
  omega
theorem two_none {Wn : WF} (h : UW Wn) : unionK Wn 2 = noneP := unionK_eq (nil_fine false) fun x => by
  rw [mem_allL]
  constructor
  · rintro ⟨i, _, hi⟩
    rw [h.off _ (by dsimp only; omega)] at hi
    exact hi
  · intro hx
    exact absurd hx (by simp [listP, noneP])
/-- How many of the first n have it. -/
def hasC (Wn : WF) (x : TT) : Nat → Nat
  | 0 => 0
  | n + 1 => hasC Wn x n + (if hasP (Wn (((n + 1 : Nat) : Int), ((3 : Nat) : Int))) x = true then 1 else 0)
theorem hasC_le (Wn : WF) (x : TT) : ∀ n, hasC Wn x n ≤ n
  | 0 => Nat.le_refl _
  | n + 1 => by
    have := hasC_le Wn x n
    unfold hasC
    split <;> omega
theorem none_has (x : TT) : hasP noneP x = false := by rw [hasP_def]; simp [noneP]
theorem who_six {Wn : WF} (h : UW Wn) (x : TT) : whoN Wn ((3 : Nat) : Int) x = hasC Wn x 6 := by
  unfold whoN
  rw [show List.range 33 = [0] ++ [1, 2, 3, 4, 5, 6] ++ (List.range 26).map (· + 7) by decide, List.countP_append, List.countP_append]
  have h0 : ([0] : List Nat).countP (fun id : Nat => hasP (Wn ((id : Int), ((3 : Nat) : Int))) x) = 0 := by
    rw [List.countP_eq_zero]
    intro a ha
    simp at ha
    subst ha
    rw [h.off _ (by decide), none_has]
    decide
  have h7 : ((List.range 26).map (· + 7)).countP (fun id : Nat => hasP (Wn ((id : Int), ((3 : Nat) : Int))) x) = 0 := by
    rw [List.countP_eq_zero]
    intro a ha
    obtain ⟨b, _, rfl⟩ := List.mem_map.1 ha
    rw [h.off _ (by dsimp only; omega), none_has]
    decide
  rw [h0, h7]
  simp only [List.countP_cons, List.countP_nil]
  simp only [hasC, Nat.reduceAdd]
  omega
end Go.Proofs.YtajajahofkialaaGreatDoor
