/- The calculus, sixteenth text: a range over a map. -/
import Derived.Test.YtajajahofkialaaGreatDoorVH
import Derived.Laws.IdiomRangeMap
namespace Go.V
open Go.RowKit
set_option linter.unusedVariables false
set_option linter.unusedSimpArgs false
set_option linter.unusedSectionVars false

section
variable {P : Program} {ops : Array Oper} {Q : Post} {ds : List Deferred} {f : Env} {w w' : World} {rest : List Oper}
variable {d : Option Nat} {ty : TypeId} {pos : String} {af : Array Edge} {g : Option (Nat × Bool)}
variable {α : Type} [DecidableEq α] {enc : α → Value}
/-- Block r is an iterator over the map in block mb, which holds M as it did when the iterator was made; the places in idx it has handed out. -/
def IterAt (w : World) (enc : α → Value) (r mb : Nat) (M : List (α × Value)) (idx : List Nat) : Prop :=
  ∃ es c since last seen, w.heap[mb]? = some (.map es c) ∧ keysAre enc es.toList M ∧ (M.map (·.1)).Nodup ∧ (es.toList.map (·.born)).Nodup ∧ (∀ e ∈ es.toList, e.born < c) ∧ (∀ e ∈ es.toList, e.born < since) ∧ since ≤ last ∧ since ≤ c ∧
    w.heap[r]? = some (.mapIter (some mb) since seen last) ∧ seen.toList = idx.map (fun i => (es.toList.map (·.born)).getD i 0) ∧ idx.Nodup ∧ ∀ i ∈ idx, i < M.length
theorem IterAt.map {r mb : Nat} {M : List (α × Value)} {idx : List Nat} (h : IterAt w enc r mb M idx) : MapAt w enc mb M := by
  obtain ⟨es, c, since, last, seen, h1, h2, h3, h4, h5, _⟩ := h
  exact ⟨es, c, h1, h2, h3, h4, h5⟩
theorem IterAt.keep {D : Nat → Prop} {r mb : Nat} {M : List (α × Value)} {idx : List Nat} (h : IterAt w enc r mb M idx) (k : Keeps D w w') (hr : ¬ D r) (hm : ¬ D mb) : IterAt w' enc r mb M idx := by
  obtain ⟨es, c, since, last, seen, h1, h2, h3, h4, h5, h6, h7, h7', h8, h9⟩ := h
  exact ⟨es, c, since, last, seen, k.heap h1 hm, h2, h3, h4, h5, h6, h7, h7', k.heap h8 hr, h9⟩
/-- The iterator's last step handed out p. -/
def EntryAt (w : World) (enc : α → Value) (r mb : Nat) (p : α × Value) : Prop :=
  ∃ es c since seen e, w.heap[mb]? = some (.map es c) ∧ w.heap[r]? = some (.mapIter (some mb) since seen c) ∧ seen.back? = some e.born ∧ e ∈ es.toList ∧ (es.toList.map (·.born)).Nodup ∧ e.key = enc p.1 ∧ e.val = p.2
theorem wr_rangeM {t K E : TypeId} {x : Operand} {mb : Nat} {M : List (α × Value)} [U : Und P t (.map K E)] (hw : wantedE ops f ⟨d, .range t x, ty, pos, af, g⟩ = true) (hx : ev f x = .map (some mb)) (h : MapAt w enc mb M)
    (kk : ∀ w', IterAt w' enc w.heap.size mb M [] → Keeps NoB w w' → Wr P ops Q ds rest (setO f d (.pointer (some ⟨w.heap.size, 0, none⟩))) w') : Wr P ops Q ds (⟨d, .range t x, ty, pos, af, g⟩ :: rest) f w := by
  obtain ⟨es, c, hb, hk, hn, hbn, hbc⟩ := h
  refine wr_v (s := Instr.range t (ev f x)) (v := .pointer (some ⟨w.heap.size, 0, none⟩)) (w' := w.alloc (.mapIter (some mb) c #[] c)) hw rfl (by rw [hx]; exact run_range_map w t K E mb es c U.h hb) (kk _ ?_ ((Keeps.refl NoB w).alloc _))
  exact ⟨es, c, c, c, #[], ((Keeps.refl NoB w).alloc _).heap hb (fun h => h), hk, hn, hbn, hbc, hbc, Nat.le_refl _, Nat.le_refl _, heap_alloc_same _ _, rfl, List.nodup_nil, fun i hi => by cases hi⟩
theorem keysAre_at : ∀ {es : List MapEntry} {l : List (α × Value)} (i : Nat) {e : MapEntry}, keysAre enc es l → es[i]? = some e → ∃ p, l[i]? = some p ∧ e.key = enc p.1 ∧ e.val = p.2
  | [], [], i, e, _, h => by simp at h
  | x :: es, p :: l, 0, e, hk, h => by
    simp at h
    subst h
    exact ⟨p, rfl, hk.1, hk.2.1⟩
  | x :: es, p :: l, i + 1, e, hk, h => keysAre_at i hk.2.2 (by simpa using h)
  | [], _ :: _, _, _, h, _ => h.elim
  | _ :: _, [], _, _, h, _ => h.elim
theorem run_nextM {r mb : Nat} {M : List (α × Value)} {idx : List Nat} (t : TypeId) (h : IterAt w enc r mb M idx) :
    (∃ w', (Instr.next (.pointer (some ⟨r, 0, none⟩)) false t).run P w = .ok (.tuple #[.bool false]) w' ∧ (∀ i, i < M.length → i ∈ idx) ∧ Keeps NoB w w') ∨
    (∃ w' i p, (Instr.next (.pointer (some ⟨r, 0, none⟩)) false t).run P w = .ok (.tuple #[.bool true, enc p.1, p.2]) w' ∧ i ∉ idx ∧ M[i]? = some p ∧ IterAt w' enc r mb M (idx ++ [i]) ∧ EntryAt w' enc r mb p ∧ Keeps (· = r) w w') := by
  obtain ⟨es, c, since, last, seen, hb, hk, hn, hbn, hbc, hbs, hsl, hsc, hr, hseen, hnd, hlt⟩ := h
  have hlen := keysAre_length hk
  have hrm : r ≠ mb := by rintro rfl; rw [hb] at hr; cases hr
  have hget1 : (getObj r).run P w = .ok (.mapIter (some mb) since seen last) w := by simp [getObj, Sem.run, hr]
  have hget2 : (getObj mb).run P w = .ok (.map es c) w := by simp [getObj, Sem.run, hb]
  have htest := next_test_false seen es since last hbs hsl
  generalize hL : es.filter (fun e => !seen.contains e.born) = L
  have hmemL : ∀ x, x ∈ L.toList → x ∈ es.toList ∧ x.born ∉ seen.toList := fun x hx => by
    rw [← hL] at hx
    simp at hx ⊢
    exact hx
  have e1 : L.filter (fun x => decide (x.born < since)) = L := Array.filter_eq_self.2 (fun x hx => by simpa using hbs x (hmemL x (by simpa using hx)).1)
  have e2 : L.filter (fun x => decide (x.born ≥ since)) = #[] := by
    rw [Array.filter_eq_empty_iff]
    intro x hx
    have := hbs x (hmemL x (by simpa using hx)).1
    simp; omega
  by_cases h0 : L.size = 0
  · left
    have hLe : L = #[] := Array.eq_empty_of_size_eq_zero h0
    refine ⟨w, ?_, fun i hi => ?_, Keeps.refl _ _⟩
    · simp only [Instr.next, Sem.run_bind, hget1, hget2, Result.andThen_ok, htest, Bool.false_eq_true, if_false, hL, e1, e2]
      rw [hLe]
      simp [choose, Sem.run, Question.forced]
    · obtain ⟨e, he⟩ : ∃ e, es.toList[i]? = some e := ⟨es.toList[i]'(by omega), by simp [show i < es.size by simpa using (by omega : i < es.toList.length)]⟩
      have hem := List.mem_of_getElem? he
      have hin : e.born ∈ seen.toList := by
        rcases Decidable.em (e.born ∈ seen.toList) with h | h
        · exact h
        · exfalso
          have : e ∈ L.toList := by rw [← hL]; simp at hem h ⊢; exact ⟨hem, h⟩
          rw [hLe] at this
          simp at this
      rw [hseen] at hin
      obtain ⟨j, hj, hje⟩ := List.mem_map.1 hin
      have hjl : j < (es.toList.map (·.born)).length := by rw [List.length_map, hlen]; exact hlt j hj
      have hil : i < (es.toList.map (·.born)).length := by rw [List.length_map, hlen]; exact hi
      have hij : (es.toList.map (·.born))[j]? = (es.toList.map (·.born))[i]? := by
        rw [List.getD_eq_getElem?_getD] at hje
        rw [List.getElem?_eq_getElem hjl] at hje ⊢
        rw [List.getElem?_map, he]
        simp at hje
        simp [hje]
      have := (List.getElem?_inj hjl hbn).1 hij
      rw [← this]; exact hj
  · right
    have hne : L.isEmpty = false := by simp [Array.isEmpty, h0]
    have hch : ∃ (j : Nat) (w1 : World), j < L.size ∧ w1.heap = w.heap ∧ Keeps NoB w w1 ∧ (choose (Question.mapNext L.size)).run P w = .ok j w1 := by
      by_cases hf : L.size ≤ 1
      · exact ⟨0, w, by omega, rfl, Keeps.refl _ _, by simp [choose, Sem.run, Question.forced, hf]⟩
      · exact ⟨_, w.drew, Nat.mod_lt _ (by omega), rfl, (Keeps.refl NoB w).drew, by
          simp only [choose, Sem.run, Question.forced, decide_eq_true_eq, hf, if_false, Question.cut]
          rfl⟩
    obtain ⟨j, w1, hj, hw1, hk1, hcr⟩ := hch
    have hm := hmemL L[j] (by simp)
    obtain ⟨i, hi⟩ := List.getElem?_of_mem hm.1
    obtain ⟨p, hp, hpk, hpv⟩ := keysAre_at i hk hi
    have hiM := (List.getElem?_eq_some_iff.1 hp).1
    have hr1 : w1.heap[r]? = some (.mapIter (some mb) since seen last) := by rw [hw1]; exact hr
    have hset : (setObj r (.mapIter (some mb) since (seen.push L[j].born) c)).run P w1 = .ok () (w1.putObj r (.mapIter (some mb) since (seen.push L[j].born) c)) := by simp [setObj, Sem.run, hr1, World.putObj]
    have hb2 : (w1.putObj r (.mapIter (some mb) since (seen.push L[j].born) c)).heap[mb]? = some (.map es c) := by rw [heap_put_ne w1 _ (Ne.symm hrm), hw1]; exact hb
    have hr2 : (w1.putObj r (.mapIter (some mb) since (seen.push L[j].born) c)).heap[r]? = some (.mapIter (some mb) since (seen.push L[j].born) c) := heap_put_same hr1
    have hborn : (es.toList.map (·.born)).getD i 0 = L[j].born := by
      rw [List.getD_eq_getElem?_getD, List.getElem?_map, hi]; rfl
    have hni : i ∉ idx := by
      intro hin
      apply hm.2
      rw [hseen, ← hborn]
      exact List.mem_map.2 ⟨i, hin, rfl⟩
    refine ⟨_, i, p, ?_, hni, hp, ⟨es, c, since, c, seen.push L[j].born, hb2, hk, hn, hbn, hbc, hbs, hsc, hsc, hr2, ?_, ?_, ?_⟩, ⟨es, c, since, seen.push L[j].born, L[j], hb2, hr2, by simp, hm.1, hbn, hpk, hpv⟩, (hk1.upD).put _ (fun _ => rfl)⟩
    · have hcj : ((L.map some)[j]? : Option (Option MapEntry)) = some (some L[j]) := by simp [hj]
      simp only [Instr.next, Sem.run_bind, hget1, hget2, Result.andThen_ok, htest, Bool.false_eq_true, if_false, hL, e1, e2, hne, Array.empty_append, Array.append_empty, Array.size_map, hcr, hcj, hset, Sem.run_pure]
      rw [hpk, hpv]
    · rw [Array.toList_push, hseen, List.map_append, List.map_singleton, hborn]
    · rw [List.nodup_append]
      refine ⟨hnd, by simp, ?_⟩
      intro x hx y hy e
      simp at hy
      subst hy
      subst e
      exact hni hx
    · intro q hq
      rcases List.mem_append.1 hq with h | h
      · exact hlt q h
      · simp at h; subst h; exact hiM
theorem wr_nextM {x : Operand} {r mb : Nat} {M : List (α × Value)} {idx : List Nat} (hw : wantedE ops f ⟨d, .next x false, ty, pos, af, g⟩ = true) (hx : ev f x = .pointer (some ⟨r, 0, none⟩)) (h : IterAt w enc r mb M idx)
    (k1 : ∀ w', (∀ i, i < M.length → i ∈ idx) → Keeps NoB w w' → Wr P ops Q ds rest (setO f d (.tuple #[.bool false])) w')
    (k2 : ∀ w' i p, i ∉ idx → M[i]? = some p → IterAt w' enc r mb M (idx ++ [i]) → EntryAt w' enc r mb p → Keeps (· = r) w w' → Wr P ops Q ds rest (setO f d (.tuple #[.bool true, enc p.1, p.2])) w') : Wr P ops Q ds (⟨d, .next x false, ty, pos, af, g⟩ :: rest) f w := by
  rcases run_nextM (P := P) ty h with ⟨w', hr, h1, h2⟩ | ⟨w', i, p, hr, h1, h2, h3, h4, h5⟩
  · exact wr_v (s := Instr.next (ev f x) false ty) hw rfl (by rw [hx]; exact hr) (k1 w' h1 h2)
  · exact wr_v (s := Instr.next (ev f x) false ty) hw rfl (by rw [hx]; exact hr) (k2 w' i p h1 h2 h3 h4 h5)
theorem wr_entryM {x : Operand} {r mb : Nat} {p : α × Value} (hw : wantedE ops f ⟨d, .entry x, ty, pos, af, g⟩ = true) (hx : ev f x = .pointer (some ⟨r, 0, none⟩)) (h : EntryAt w enc r mb p)
    (kk : Wr P ops Q ds rest (setO f d (.tuple #[enc p.1, p.2])) w) : Wr P ops Q ds (⟨d, .entry x, ty, pos, af, g⟩ :: rest) f w := by
  obtain ⟨es, c, since, seen, e, hb, hr, hs, he, hn, hk, hv⟩ := h
  refine wr_v (s := Instr.entry (ev f x)) (v := .tuple #[enc p.1, p.2]) hw rfl ?_ kk
  have hget1 : (getObj r).run P w = .ok (.mapIter (some mb) since seen c) w := by simp [getObj, Sem.run, hr]
  have hget2 : (getObj mb).run P w = .ok (.map es c) w := by simp [getObj, Sem.run, hb]
  have hf := find_born e es.toList hn he
  have hf2 : es.find? (·.born == e.born) = some e := by simpa using hf
  rw [hx]
  simp only [Instr.entry, Sem.run_bind, hget1, hget2, hs, Result.andThen_ok, bne_self_eq_false, Bool.false_eq_true, if_false, hf2, hk, hv, Sem.run_pure]
end
end Go.V
