/- The calculus, sixth text: maps, as lists of keys and values, each key once. -/
import Derived.Test.YtjaojihogmnjhaaGreatDoorM1
import Derived.Laws.StructEq
import Derived.LaidEql
import Derived.Stop.Asserts
import Derived.Laws.Externs
namespace Go.V
open Go.RowKit
set_option linter.unusedVariables false
set_option linter.unusedSimpArgs false
set_option linter.unusedSectionVars false

/-- How keys of a type are written as values: they are told apart, asked for, kept. -/
class MKey (P : Program) (K : TypeId) {α : Type} [DecidableEq α] (enc : α → Value) : Prop where
  chk : ∀ (e : Bool) (a : α) (w : World), (Instr.checkKey e 10000 K (enc a)).run P w = .ok () w
  eq : ∀ (a b : α) (w : World), (Op.equal K (enc a) (enc b)).run P w = .ok (decide (a = b)) w
  now : ∃ d, P.underlying K = some d ∧ ((∀ a b, Instr.sameNow d (enc a) (enc b) = some (decide (a = b))) ∨ (∀ a b, Instr.sameNow d (enc a) (enc b) = none))
  bits : ∀ a, Instr.sameBits 10000 (enc a) (enc a) = true
section find
variable {P : Program} {K : TypeId} {α : Type} [DecidableEq α] {enc : α → Value}
/-- Where a key stands. -/
def posK (a : α) : List (α × Value) → Nat → Option (Nat × Value)
  | [], _ => none
  | p :: l, i => if a = p.1 then some (i, p.2) else posK a l (i + 1)
def keysAre (enc : α → Value) : List MapEntry → List (α × Value) → Prop
  | [], [] => True
  | e :: es, p :: l => e.key = enc p.1 ∧ e.val = p.2 ∧ keysAre enc es l
  | _, _ => False
theorem findNow_eq {d : TypeDesc} (h : ∀ a b : α, Instr.sameNow d (enc a) (enc b) = some (decide (a = b))) (a : α) : ∀ (es : List MapEntry) (l : List (α × Value)) (i : Nat), keysAre enc es l → Instr.findNow d (enc a) es i = some (posK a l i)
  | [], [], i, _ => rfl
  | e :: es, p :: l, i, hk => by
    obtain ⟨h1, h2, h3⟩ := hk
    simp only [Instr.findNow, posK, h1, h, h2]
    by_cases e : a = p.1
    · simp [e]
    · simp only [e, decide_false, if_false]; exact findNow_eq h a es l (i + 1) h3
  | [], _ :: _, _, h => h.elim
  | _ :: _, [], _, h => h.elim
theorem findAsk_eq (M : MKey P K enc) (a : α) (w : World) : ∀ (es : List MapEntry) (l : List (α × Value)) (i : Nat), keysAre enc es l → (Instr.findAsking K (enc a) es i).run P w = .ok (posK a l i) w
  | [], [], i, _ => rfl
  | e :: es, p :: l, i, hk => by
    obtain ⟨h1, h2, h3⟩ := hk
    simp only [Instr.findAsking, Sem.run_bind, h1, M.eq, Result.andThen_ok, posK, h2]
    by_cases e : a = p.1
    · simp [e]
    · simp only [e, decide_false, Bool.false_eq_true, if_false]; exact findAsk_eq M a w es l (i + 1) h3
  | [], _ :: _, _, h => h.elim
  | _ :: _, [], _, h => h.elim
theorem findKey_eq (M : MKey P K enc) (a : α) (w : World) (es : List MapEntry) (l : List (α × Value)) (hk : keysAre enc es l) : (Instr.findKey K (enc a) es).run P w = .ok (posK a l 0) w := by
  obtain ⟨d, hd, h | h⟩ := M.now
  · simp only [Instr.findKey, underlying, Sem.run_bind, run_program, Result.andThen_ok, hd, Sem.run_pure]
    rw [findNow_eq h a es l 0 hk]; rfl
  · simp only [Instr.findKey, underlying, Sem.run_bind, run_program, Result.andThen_ok, hd, Sem.run_pure]
    cases es with
    | nil => cases l with
      | nil => rfl
      | cons p l => exact hk.elim
    | cons e es => cases l with
      | nil => exact hk.elim
      | cons p l =>
        have : Instr.findNow d (enc a) (e :: es) 0 = none := by simp only [Instr.findNow, hk.1, h]
        rw [this]; exact findAsk_eq M a w _ _ 0 hk
end find
section maps
variable {α : Type} [DecidableEq α]
def getM (l : List (α × Value)) (a : α) : Option Value := (l.find? (·.1 = a)).map (·.2)
def putM (l : List (α × Value)) (a : α) (v : Value) : List (α × Value) := if a ∈ l.map (·.1) then l.map (fun p => if p.1 = a then (a, v) else p) else l ++ [(a, v)]
def delM (l : List (α × Value)) (a : α) : List (α × Value) := l.filter (fun p => p.1 ≠ a)
theorem posK_some {a : α} : ∀ (l : List (α × Value)) (i : Nat), (posK a l i).map (·.2) = getM l a
  | [], _ => rfl
  | p :: l, i => by
    unfold posK getM
    by_cases e : a = p.1
    · simp [e]
    · rw [if_neg e, posK_some l (i + 1)]
      simp [getM, List.find?_cons, Ne.symm e]
theorem posK_none {a : α} : ∀ (l : List (α × Value)) (i : Nat), posK a l i = none ↔ a ∉ l.map (·.1)
  | [], _ => by simp [posK]
  | p :: l, i => by
    unfold posK
    by_cases e : a = p.1
    · simp [e]
    · rw [if_neg e, posK_none l (i + 1)]; simp [e]
theorem posK_at {a : α} {j : Nat} {v : Value} : ∀ (l : List (α × Value)) (i : Nat), posK a l i = some (j, v) → i ≤ j ∧ l[j - i]? = some (a, v)
  | [], i, h => by simp [posK] at h
  | p :: l, i, h => by
    unfold posK at h
    by_cases e : a = p.1
    · rw [if_pos e] at h
      simp only [Option.some.injEq, Prod.mk.injEq] at h
      obtain ⟨rfl, rfl⟩ := h
      exact ⟨Nat.le_refl _, by simp [e]⟩
    · rw [if_neg e] at h
      obtain ⟨h1, h2⟩ := posK_at l (i + 1) h
      refine ⟨by omega, ?_⟩
      rw [show j - i = (j - (i + 1)) + 1 by omega]; simpa using h2
/-- Block b is a map that holds l, each key once. -/
def MapAt (w : World) (enc : α → Value) (b : Nat) (l : List (α × Value)) : Prop :=
  ∃ es clock, w.heap[b]? = some (.map es clock) ∧ keysAre enc es.toList l ∧ (l.map (·.1)).Nodup ∧ (es.toList.map (·.born)).Nodup ∧ ∀ e ∈ es.toList, e.born < clock
theorem MapAt.keep {D : Nat → Prop} {w w' : World} {enc : α → Value} {b : Nat} {l : List (α × Value)} (h : MapAt w enc b l) (k : Keeps D w w') (hd : ¬ D b) : MapAt w' enc b l := by
  obtain ⟨es, c, hb, h⟩ := h
  exact ⟨es, c, k.heap hb hd, h⟩
theorem MapAt.lt {w : World} {enc : α → Value} {b : Nat} {l : List (α × Value)} (h : MapAt w enc b l) : b < w.heap.size := by
  obtain ⟨es, c, hb, h⟩ := h; exact lt_of_heap hb
theorem MapAt.new (w : World) (enc : α → Value) : MapAt (w.alloc (.map #[] 0)) enc w.heap.size [] := ⟨#[], 0, heap_alloc_same w _, trivial, by simp, by simp, by simp⟩
theorem MapAt.alloc {w : World} {enc : α → Value} {b : Nat} {l : List (α × Value)} (h : MapAt w enc b l) (o : Obj) : MapAt (w.alloc o) enc b l := h.keep ((Keeps.refl NoB w).alloc o) (fun h => h)
theorem keysAre_length {enc : α → Value} : ∀ {es : List MapEntry} {l : List (α × Value)}, keysAre enc es l → es.length = l.length
  | [], [], _ => rfl
  | _ :: _, _ :: _, h => by simp [keysAre_length h.2.2]
  | [], _ :: _, h => h.elim
  | _ :: _, [], h => h.elim
theorem keysAre_append {enc : α → Value} : ∀ {es es' : List MapEntry} {l l' : List (α × Value)}, keysAre enc es l → keysAre enc es' l' → keysAre enc (es ++ es') (l ++ l')
  | [], _, [], _, _, h => h
  | _ :: _, _, _ :: _, _, h, h' => ⟨h.1, h.2.1, keysAre_append h.2.2 h'⟩
  | [], _, _ :: _, _, h, _ => h.elim
  | _ :: _, _, [], _, h, _ => h.elim
theorem keysAre_get {enc : α → Value} {j : Nat} {p : α × Value} : ∀ {es : List MapEntry} {l : List (α × Value)} (i : Nat), keysAre enc es l → l[i]? = some p → ∃ e, es[i]? = some e ∧ e.key = enc p.1 ∧ e.val = p.2
  | [], [], i, _, h => by simp at h
  | e :: es, q :: l, 0, h, hi => by simp at hi; subst hi; exact ⟨e, rfl, h.1, h.2.1⟩
  | e :: es, q :: l, i + 1, h, hi => by simpa using keysAre_get (j := j) i h.2.2 (by simpa using hi)
  | [], _ :: _, _, h, _ => h.elim
  | _ :: _, [], _, h, _ => h.elim
theorem keysAre_set {enc : α → Value} {a : α} {v : Value} : ∀ {es : List MapEntry} {l : List (α × Value)} (i : Nat), keysAre enc es l → (l[i]?).map (·.1) = some a → keysAre enc (es.modify i fun e => { e with key := enc a, val := v }) (l.modify i fun _ => (a, v))
  | [], [], i, _, h => by simp at h
  | e :: es, q :: l, 0, h, hi => ⟨rfl, rfl, h.2.2⟩
  | e :: es, q :: l, i + 1, h, hi => ⟨h.1, h.2.1, keysAre_set i h.2.2 (by simpa using hi)⟩
  | [], _ :: _, _, h, _ => h.elim
  | _ :: _, [], _, h, _ => h.elim
theorem keysAre_erase {enc : α → Value} : ∀ {es : List MapEntry} {l : List (α × Value)} (i : Nat), keysAre enc es l → keysAre enc (es.eraseIdx i) (l.eraseIdx i)
  | [], [], i, _ => by simp [keysAre]
  | e :: es, q :: l, 0, h => h.2.2
  | e :: es, q :: l, i + 1, h => ⟨h.1, h.2.1, keysAre_erase i h.2.2⟩
  | [], _ :: _, _, h => h.elim
  | _ :: _, [], _, h => h.elim
theorem modify_put {a : α} {v : Value} : ∀ (l : List (α × Value)) (i : Nat), (l.map (·.1)).Nodup → (l[i]?).map (·.1) = some a → l.modify i (fun _ => (a, v)) = l.map (fun p => if p.1 = a then (a, v) else p)
  | [], i, _, h => by simp at h
  | q :: l, 0, hn, h => by
    simp at h; subst h
    simp only [List.map_cons, List.nodup_cons] at hn
    simp only [List.modify_zero_cons, List.map_cons, if_true, List.cons.injEq, true_and]
    conv => lhs; rw [← List.map_id l]
    refine List.map_congr_left fun p hp => ?_
    rw [if_neg fun e => hn.1 (by rw [← e]; exact List.mem_map_of_mem hp)]; rfl
  | q :: l, i + 1, hn, h => by
    simp only [List.map_cons, List.nodup_cons] at hn
    have h' : (l[i]?).map (·.1) = some a := by simpa using h
    have hm : a ∈ l.map (·.1) := by
      cases hl : l[i]? with
      | none => rw [hl] at h'; cases h'
      | some p => rw [hl] at h'; simp at h'; subst h'; exact List.mem_map_of_mem (List.mem_of_getElem? hl)
    simp only [List.modify_succ_cons, List.map_cons]
    rw [modify_put l i hn.2 h', if_neg fun e => hn.1 (by rw [e]; exact hm)]
theorem erase_del {a : α} : ∀ (l : List (α × Value)) (i : Nat), (l.map (·.1)).Nodup → (l[i]?).map (·.1) = some a → l.eraseIdx i = delM l a
  | [], i, _, h => by simp at h
  | q :: l, 0, hn, h => by
    simp at h; subst h
    simp only [List.map_cons, List.nodup_cons] at hn
    have : delM l q.1 = l := List.filter_eq_self.2 fun p hp => by simp; exact fun e => hn.1 (by rw [← e]; exact List.mem_map_of_mem hp)
    show l = delM (q :: l) q.1
    rw [delM, List.filter_cons_of_neg (by simp)]; exact this.symm
  | q :: l, i + 1, hn, h => by
    simp only [List.map_cons, List.nodup_cons] at hn
    have h' : (l[i]?).map (·.1) = some a := by simpa using h
    have hm : a ∈ l.map (·.1) := by
      cases hl : l[i]? with
      | none => rw [hl] at h'; cases h'
      | some p => rw [hl] at h'; simp at h'; subst h'; exact List.mem_map_of_mem (List.mem_of_getElem? hl)
    have := erase_del l i hn.2 h'
    have hq : q.1 ≠ a := fun e => hn.1 (by rw [e]; exact hm)
    simp [delM, hq] at this ⊢; exact this
theorem born_modify {a : Value} {v : Value} : ∀ (es : List MapEntry) (i : Nat), (es.modify i (fun e => { e with key := a, val := v })).map (·.born) = es.map (·.born)
  | [], i => by simp
  | e :: es, 0 => by simp
  | e :: es, i + 1 => by simp [born_modify es i]
theorem delM_none {l : List (α × Value)} {a : α} (h : a ∉ l.map (·.1)) : delM l a = l := List.filter_eq_self.2 fun p hp => by
  simp; exact fun e => h (by rw [← e]; exact List.mem_map_of_mem hp)
theorem putM_keys_mem {l : List (α × Value)} {a : α} {v : Value} (h : a ∈ l.map (·.1)) : (putM l a v).map (·.1) = l.map (·.1) := by
  rw [putM, if_pos h, List.map_map]
  refine List.map_congr_left fun p _ => ?_
  simp only [Function.comp]; split
  · rename_i e; exact e.symm
  · rfl
theorem putM_nodup {l : List (α × Value)} {a : α} {v : Value} (h : (l.map (·.1)).Nodup) : ((putM l a v).map (·.1)).Nodup := by
  by_cases hm : a ∈ l.map (·.1)
  · rw [putM_keys_mem hm]; exact h
  · rw [putM, if_neg hm, List.map_append, List.nodup_append]
    refine ⟨h, by simp, ?_⟩
    intro x hx y hy e; simp at hy; subst hy; subst e; exact hm hx
theorem delM_nodup {l : List (α × Value)} {a : α} (h : (l.map (·.1)).Nodup) : ((delM l a).map (·.1)).Nodup := h.sublist (List.Sublist.map _ List.filter_sublist)
end maps

section ops
variable {P : Program} {ops : Array Oper} {Q : Post} {ds : List Deferred} {f : Env} {w w' : World} {rest : List Oper}
variable {d : Option Nat} {ty : TypeId} {pos : String} {af : Array Edge} {g : Option (Nat × Bool)}
variable {α : Type} [DecidableEq α] {enc : α → Value}
theorem run_getMap {b : Nat} {es : Array MapEntry} {c : Nat} (h : w.heap[b]? = some (.map es c)) : (getObj b).run P w = .ok (.map es c) w := by simp [getObj, Sem.run, h]
theorem run_setMap {b : Nat} {es : Array MapEntry} {c : Nat} (o : Obj) (h : w.heap[b]? = some (.map es c)) : (setObj b o).run P w = .ok () (w.putObj b o) := by simp [setObj, Sem.run, h, World.putObj]
theorem wr_makeMap {t : TypeId} (hw : wantedE ops f ⟨d, .makeMap t none, ty, pos, af, g⟩ = true) (kk : Wr P ops Q ds rest (setO f d (.map (some w.heap.size))) (w.alloc (.map #[] 0))) :
    Wr P ops Q ds (⟨d, .makeMap t none, ty, pos, af, g⟩ :: rest) f w :=
  wr_v (s := Instr.makeMap t none) (v := .map (some w.heap.size)) (w' := w.alloc (.map #[] 0)) hw rfl rfl kk
theorem run_update {t K E : TypeId} (U : Und P t (.map K E)) (M : MKey P K enc) {b : Nat} {l : List (α × Value)} (h : MapAt w enc b l) (a : α) (v : Value) :
    ∃ w', (Instr.mapUpdate t (.map (some b)) (enc a) v).run P w = .ok () w' ∧ MapAt w' enc b (putM l a v) ∧ Keeps (· = b) w w' := by
  obtain ⟨es, c, hb, hk, hn, hbn, hbc⟩ := h
  have hlen := keysAre_length hk
  have hrun : (Instr.mapUpdate t (.map (some b)) (enc a) v).run P w = ((match posK a l 0 with
      | some (i, _) => do let key ← Instr.keyThatStays (((es[i]?).map (·.key)).getD (enc a)) (enc a); setObj b (.map (es.modify i fun e => { e with key, val := v }) c)
      | none => setObj b (.map (es.push { key := enc a, val := v, born := c }) (c + 1)) : Sem Unit)).run P w := by
    simp only [Instr.mapUpdate, Sem.run_bind, run_und U, Result.andThen_ok, run_getMap hb, M.chk, findKey_eq M a w es.toList l hk]
    rfl
  cases hp : posK a l 0 with
  | none =>
    have hm := (posK_none l 0).1 hp
    refine ⟨w.putObj b (.map (es.push { key := enc a, val := v, born := c }) (c + 1)), ?_, ⟨_, _, heap_put_same hb, ?_, putM_nodup hn, ?_, ?_⟩, (Keeps.refl _ w).put _ fun _ => rfl⟩
    · rw [hrun, hp]; exact run_setMap _ hb
    · rw [putM, if_neg hm, Array.toList_push]; exact keysAre_append hk ⟨rfl, rfl, trivial⟩
    · rw [Array.toList_push, List.map_append, List.nodup_append]
      refine ⟨hbn, by simp, ?_⟩
      intro x hx y hy e
      simp at hy; subst hy; subst e
      obtain ⟨e, he, hee⟩ := List.mem_map.1 hx
      have := hbc e he; omega
    · intro e he
      rw [Array.toList_push, List.mem_append] at he
      rcases he with he | he
      · have := hbc e he; omega
      · simp at he; subst he; simp
  | some iv =>
    obtain ⟨i, u⟩ := iv
    obtain ⟨_, hi⟩ := posK_at l 0 hp
    rw [Nat.sub_zero] at hi
    obtain ⟨e0, he0, hek, hev⟩ := keysAre_get (j := 0) i hk hi
    have hei : es[i]? = some e0 := by simpa using he0
    have hin : a ∈ l.map (·.1) := List.mem_map.2 ⟨(a, u), List.mem_of_getElem? hi, rfl⟩
    have hst : (Instr.keyThatStays (((es[i]?).map (·.key)).getD (enc a)) (enc a)).run P w = .ok (enc a) w := by
      rw [hei]; simp only [Option.map_some, Option.getD_some, hek, Instr.keyThatStays, M.bits, if_true]; rfl
    have hmod : (es.modify i fun e => { e with key := enc a, val := v }).toList = es.toList.modify i (fun e => { e with key := enc a, val := v }) := by simp
    refine ⟨w.putObj b (.map (es.modify i fun e => { e with key := enc a, val := v }) c), ?_, ⟨_, _, heap_put_same hb, ?_, putM_nodup hn, ?_, ?_⟩, (Keeps.refl _ w).put _ fun _ => rfl⟩
    · rw [hrun, hp]; simp only [Sem.run_bind, hst, Result.andThen_ok]; exact run_setMap _ hb
    · rw [hmod, putM, if_pos hin, ← modify_put l i hn (by rw [hi]; rfl)]
      exact keysAre_set i hk (by rw [hi]; rfl)
    · rw [hmod, born_modify]; exact hbn
    · intro e he
      rw [hmod] at he
      have hb' : e.born ∈ (es.toList.modify i (fun e => { e with key := enc a, val := v })).map (·.born) := List.mem_map_of_mem he
      rw [born_modify] at hb'
      obtain ⟨e', he', hee⟩ := List.mem_map.1 hb'
      rw [← hee]; exact hbc e' he'
theorem wr_update {t K E : TypeId} {x y z : Operand} {b : Nat} {l : List (α × Value)} {a : α} {v : Value} [U : Und P t (.map K E)] [M : MKey P K enc] (hw : wantedE ops f ⟨d, .mapUpdate t x y z, ty, pos, af, g⟩ = true) (hx : ev f x = .map (some b)) (h : MapAt w enc b l) (hy : ev f y = enc a) (hz : ev f z = v)
    (kk : ∀ w', MapAt w' enc b (putM l a v) → Keeps (· = b) w w' → Wr P ops Q ds rest (setO f d undef) w') : Wr P ops Q ds (⟨d, .mapUpdate t x y z, ty, pos, af, g⟩ :: rest) f w := by
  obtain ⟨w', hr, h1, h2⟩ := run_update (P := P) U M h a v
  exact wr_u (s := Instr.mapUpdate t (ev f x) (ev f y) (ev f z)) hw rfl (by rw [hx, hy, hz]; exact hr) (kk w' h1 h2)
theorem wr_insert {t K E : TypeId} {x y z : Operand} {b : Nat} {l : List (α × Value)} {a : α} {v : Value} [U : Und P t (.map K E)] [M : MKey P K enc] (hw : wantedE ops f ⟨d, .insert t x y z, ty, pos, af, g⟩ = true) (hx : ev f x = .map (some b)) (h : MapAt w enc b l) (hy : ev f y = enc a) (hz : ev f z = v)
    (kk : ∀ w', MapAt w' enc b (putM l a v) → Keeps (· = b) w w' → Wr P ops Q ds rest (setO f d undef) w') : Wr P ops Q ds (⟨d, .insert t x y z, ty, pos, af, g⟩ :: rest) f w := by
  obtain ⟨w', hr, h1, h2⟩ := run_update (P := P) U M h a v
  exact wr_u (s := Instr.mapUpdate t (ev f x) (ev f y) (ev f z)) hw rfl (by rw [hx, hy, hz]; exact hr) (kk w' h1 h2)
theorem run_look {t K E : TypeId} {z : Value} {s b' : Nat} (U : Und P t (.map K E)) (I : Info P E z s b') (M : MKey P K enc) {b : Nat} {l : List (α × Value)} (h : MapAt w enc b l) (a : α) (ok : Bool) :
    (Instr.lookup t (.map (some b)) (enc a) ok).run P w = .ok (if ok then .tuple #[(getM l a).getD z, .bool (getM l a).isSome] else (getM l a).getD z) w := by
  obtain ⟨es, c, hb, hk, hn, hbn, hbc⟩ := h
  have hg := posK_some (a := a) l 0
  simp only [Instr.lookup, Sem.run_bind, run_und U, Result.andThen_ok, run_getMap hb, Sem.run_pure, M.chk, findKey_eq M a w es.toList l hk]
  cases hp : posK a l 0 with
  | none => rw [hp] at hg; rw [← hg]; simp [run_zero I]
  | some iv => obtain ⟨i, u⟩ := iv; rw [hp] at hg; rw [← hg]; simp
theorem wr_lookup {t K E : TypeId} {z : Value} {s b' : Nat} {x y : Operand} {b : Nat} {l : List (α × Value)} {a : α} [U : Und P t (.map K E)] [I : Info P E z s b'] [M : MKey P K enc] (hw : wantedE ops f ⟨d, .lookup t x y false, ty, pos, af, g⟩ = true) (hx : ev f x = .map (some b)) (h : MapAt w enc b l) (hy : ev f y = enc a)
    (kk : Wr P ops Q ds rest (setO f d ((getM l a).getD z)) w) : Wr P ops Q ds (⟨d, .lookup t x y false, ty, pos, af, g⟩ :: rest) f w :=
  wr_v (s := Instr.lookup t (ev f x) (ev f y) false) hw rfl (by rw [hx, hy]; exact run_look U I M h a false) kk
theorem wr_lookupOk {t K E : TypeId} {z : Value} {s b' : Nat} {x y : Operand} {b : Nat} {l : List (α × Value)} {a : α} [U : Und P t (.map K E)] [I : Info P E z s b'] [M : MKey P K enc] (hw : wantedE ops f ⟨d, .lookup t x y true, ty, pos, af, g⟩ = true) (hx : ev f x = .map (some b)) (h : MapAt w enc b l) (hy : ev f y = enc a)
    (kk : Wr P ops Q ds rest (setO f d (.tuple #[(getM l a).getD z, .bool (getM l a).isSome])) w) : Wr P ops Q ds (⟨d, .lookup t x y true, ty, pos, af, g⟩ :: rest) f w :=
  wr_v (s := Instr.lookup t (ev f x) (ev f y) true) hw rfl (by rw [hx, hy]; exact run_look U I M h a true) kk
theorem wr_delete {t K E : TypeId} {x y : Operand} {t2 : TypeId} {b : Nat} {l : List (α × Value)} {a : α} [U : Und P t (.map K E)] [M : MKey P K enc] (hw : wantedE ops f ⟨d, .call { callee := .builtin .delete, args := #[x, y], argTypes := #[t, t2] }, ty, pos, af, g⟩ = true) (hx : ev f x = .map (some b)) (h : MapAt w enc b l) (hy : ev f y = enc a)
    (kk : ∀ w', MapAt w' enc b (delM l a) → Keeps (· = b) w w' → Wr P ops Q ds rest (setO f d (.tuple #[])) w') : Wr P ops Q ds (⟨d, .call { callee := .builtin .delete, args := #[x, y], argTypes := #[t, t2] }, ty, pos, af, g⟩ :: rest) f w := by
  obtain ⟨es, c, hb, hk, hn, hbn, hbc⟩ := h
  have hrun : ∀ o w', ((match posK a l 0 with
      | some (i, _) => setObj b (.map (es.eraseIdxIfInBounds i) c)
      | none => setObj b (.map es c) : Sem Unit)).run P w = .ok o w' → (execOp (ev f) ⟨d, .call { callee := .builtin .delete, args := #[x, y], argTypes := #[t, t2] }, ty, pos, af, g⟩).run P w = .ok (.value (.tuple #[])) w' := fun o w' ho => by
    simp only [execOp, resolve, invoke, builtin, Builtin.delete_, Sem.run_bind, Sem.run_pure, Result.andThen_ok, List.map_toArray, List.map_cons, List.map_nil, hx, hy, List.getElem?_toArray, List.getElem?_cons_zero, List.getElem?_cons_succ, run_und U, run_getMap hb, M.chk, findKey_eq M a w es.toList l hk]
    cases hp : posK a l 0 with
    | none => rw [hp] at ho; simp only at ho ⊢; simp only [Sem.run_bind, ho, Result.andThen_ok, Sem.run_pure]
    | some iv => obtain ⟨i, u⟩ := iv; rw [hp] at ho; simp only at ho ⊢; simp only [Sem.run_bind, ho, Result.andThen_ok, Sem.run_pure]
  cases hp : posK a l 0 with
  | none =>
    rw [hp] at hrun
    have hm := (posK_none l 0).1 hp
    exact wr_val hw (hrun _ _ (run_setMap _ hb)) (kk _ ⟨es, c, heap_put_same hb, by rw [delM_none hm]; exact hk, delM_nodup hn, hbn, hbc⟩ ((Keeps.refl _ w).put _ fun _ => rfl))
  | some iv =>
    obtain ⟨i, u⟩ := iv
    rw [hp] at hrun
    obtain ⟨_, hi⟩ := posK_at l 0 hp
    rw [Nat.sub_zero] at hi
    have he : (es.eraseIdxIfInBounds i).toList = es.toList.eraseIdx i := by simp
    refine wr_val hw (hrun _ _ (run_setMap _ hb)) (kk _ ⟨_, c, heap_put_same hb, ?_, delM_nodup hn, ?_, ?_⟩ ((Keeps.refl _ w).put _ fun _ => rfl))
    · rw [he, ← erase_del l i hn (by rw [hi]; rfl)]; exact keysAre_erase i hk
    · rw [he]; exact hbn.sublist (List.Sublist.map _ (List.eraseIdx_sublist _ _))
    · intro e hm; rw [he] at hm; exact hbc e (List.mem_of_mem_eraseIdx hm)
theorem wr_clear {t K E : TypeId} {x : Operand} {b : Nat} {l : List (α × Value)} [U : Und P t (.map K E)] (hw : wantedE ops f ⟨d, .call { callee := .builtin .clear, args := #[x], argTypes := #[t] }, ty, pos, af, g⟩ = true) (hx : ev f x = .map (some b)) (h : MapAt w enc b l)
    (kk : ∀ w', MapAt w' enc b [] → Keeps (· = b) w w' → Wr P ops Q ds rest (setO f d (.tuple #[])) w') : Wr P ops Q ds (⟨d, .call { callee := .builtin .clear, args := #[x], argTypes := #[t] }, ty, pos, af, g⟩ :: rest) f w := by
  obtain ⟨es, c, hb, hk, hn, hbn, hbc⟩ := h
  refine wr_val (v := .tuple #[]) (w' := w.putObj b (.map #[] c)) hw ?_ (kk _ ⟨#[], c, heap_put_same hb, trivial, by simp, by simp, by simp⟩ ((Keeps.refl _ w).put _ fun _ => rfl))
  simp only [execOp, resolve, invoke, builtin, Builtin.clear_, Sem.run_bind, Sem.run_pure, Result.andThen_ok, List.map_toArray, List.map_cons, List.map_nil, hx, List.getElem?_toArray, List.getElem?_cons_zero, run_und U, run_getMap hb, run_setMap _ hb]
theorem wr_len_map {t K E : TypeId} {x : Operand} {b : Nat} {l : List (α × Value)} [U : Und P t (.map K E)] (hw : wantedE ops f ⟨d, .call { callee := .builtin .len, args := #[x], argTypes := #[t] }, ty, pos, af, g⟩ = true) (hx : ev f x = .map (some b)) (h : MapAt w enc b l)
    (kk : Wr P ops Q ds rest (setO f d (.int .i64 (l.length : Int))) w) : Wr P ops Q ds (⟨d, .call { callee := .builtin .len, args := #[x], argTypes := #[t] }, ty, pos, af, g⟩ :: rest) f w := by
  obtain ⟨es, c, hb, hk, hn, hbn, hbc⟩ := h
  have hl := keysAre_length hk
  refine wr_val (v := .int .i64 (l.length : Int)) hw ?_ kk
  simp only [execOp, resolve, invoke, builtin, Builtin.len_, Sem.run_bind, Sem.run_pure, Result.andThen_ok, List.map_toArray, List.map_cons, List.map_nil, hx, List.getElem?_toArray, List.getElem?_cons_zero, run_und U, run_getMap hb, goInt]
  rw [← hl]; rfl
end ops

/-! ### Keys that are numbers, or texts -/
def encI (k : IntKind) (a : Int) : Value := .int k a
theorem equalIn_int {P : Program} {K : TypeId} {k : IntKind} (n : Nat) (U : Und P K (.int k)) (a b : Int) (w : World) : (Op.equalIn (n + 1) K (.int k a) (.int k b)).run P w = .ok (decide (a = b)) w := by
  rw [run_equalIn_int w n K k k a b U.h]
  congr 1
theorem chk_int {P : Program} {K : TypeId} {k : IntKind} (n : Nat) (U : Und P K (.int k)) (e : Bool) (a : Int) (w : World) : (Instr.checkKey e (n + 1) K (.int k a)).run P w = .ok () w := by
  simp only [Instr.checkKey, Sem.run_bind, run_und U, Result.andThen_ok, Sem.run_pure]
instance mkeyInt {P : Program} {K : TypeId} {k : IntKind} [U : Und P K (.int k)] : MKey P K (encI k) where
  chk := fun e a w => chk_int 9999 U e a w
  eq := fun a b w => equalIn_int 9999 U a b w
  now := ⟨_, U.h, .inl fun a b => by simp only [encI, Instr.sameNow, if_true]; rfl⟩
  bits := fun a => by simp [encI, Instr.sameBits]
def encS (a : List UInt8) : Value := S a
theorem S_beq (a b : List UInt8) : ((⟨a.toArray⟩ : ByteArray) == ⟨b.toArray⟩) = decide (a = b) := by
  rw [beq_toListBytes, ByteArray.toList_mk, ByteArray.toList_mk]
  by_cases h : a = b <;> simp [h]
theorem equalIn_str {P : Program} {K : TypeId} (n : Nat) (U : Und P K .string) (a b : List UInt8) (w : World) : (Op.equalIn (n + 1) K (S a) (S b)).run P w = .ok (decide (a = b)) w := by
  rw [run_equalIn_string w n K _ _ U.h, ByteArray.toList_mk, ByteArray.toList_mk]
  congr 1
  by_cases h : a = b <;> simp [h]
theorem chk_str {P : Program} {K : TypeId} (n : Nat) (U : Und P K .string) (e : Bool) (a : List UInt8) (w : World) : (Instr.checkKey e (n + 1) K (S a)).run P w = .ok () w := by
  simp only [Instr.checkKey, Sem.run_bind, run_und U, Result.andThen_ok, Sem.run_pure]
instance mkeyStr {P : Program} {K : TypeId} [U : Und P K .string] : MKey P K encS where
  chk := fun e a w => chk_str 9999 U e a w
  eq := fun a b w => equalIn_str 9999 U a b w
  now := ⟨_, U.h, .inl fun a b => by simp only [encS, Instr.sameNow, S_beq]⟩
  bits := fun a => by simp only [encS, Instr.sameBits, S_beq, decide_true]
end Go.V

namespace Go.V
open Go.RowKit
set_option linter.unusedVariables false
set_option linter.unusedSimpArgs false
set_option linter.unusedSectionVars false

/-- Where a struct type's fields lie, and how many cells each has. -/
class Plc (P : Program) (t : TypeId) (pl : outParam (List (Nat × Nat))) : Prop where
  h : ∃ fs, P.underlying t = some (.struct fs) ∧ fs.toList.map (fun f => (f.offset, (P.info? f.type).map (·.size))) = pl.map (fun p => (p.1, some p.2))
def fillL (pl : List (Nat × Nat)) : List Value → List (Nat × Value) → List Value
  | cs, [] => cs
  | cs, (i, v) :: r => match pl[i]? with
    | some (off, size) => fillL pl (cs.take off ++ v.cells.toList ++ cs.drop (off + size)) r
    | none => []
def fillOk (pl : List (Nat × Nat)) (n : Nat) : List (Nat × Value) → Bool
  | [] => true
  | (i, v) :: r => (match pl[i]? with
    | some (off, size) => Nat.beq v.cells.size size && Nat.ble (off + size) n
    | none => false) && fillOk pl n r
theorem fillL_eq (pl : List (Nat × Nat)) : ∀ (ps : List (Nat × Value)) (cs : Array Value), fillOk pl cs.size ps = true → Instr.fill (pl[·]?) cs ps = some (fillL pl cs.toList ps).toArray
  | [], cs, _ => by simp [Instr.fill, fillL]
  | (i, v) :: r, cs, h => by
    simp only [fillOk, Bool.and_eq_true] at h
    cases hp : pl[i]? with
    | none => rw [hp] at h; exact absurd h.1 (by simp)
    | some os =>
      obtain ⟨off, size⟩ := os
      rw [hp] at h
      simp only [Bool.and_eq_true] at h
      have h1 : v.cells.size = size := Nat.eq_of_beq_eq_true h.1.1
      have h2 : off + size ≤ cs.size := by simpa using h.1.2
      simp only [Instr.fill, fillL, hp]
      rw [if_neg (by simp only [Bool.or_eq_true, decide_eq_true_eq]; omega)]
      have hf := zipIdx_fold off v.cells.toList 0 cs (by simp [h1]; omega)
      simp only [Nat.add_zero, Array.length_toList, h1] at hf
      have hz : (v.cells.zipIdx.foldl (fun cs (c, j) => cs.setIfInBounds (off + j) c) cs).toList = cs.toList.take off ++ v.cells.toList ++ cs.toList.drop (off + size) := by
        rw [zipIdx_toList_fold]; exact hf
      have hsz : (v.cells.zipIdx.foldl (fun cs (c, j) => cs.setIfInBounds (off + j) c) cs).size = cs.size := by
        rw [← Array.length_toList, hz, List.length_append, List.length_append, List.length_take, List.length_drop, Array.length_toList, Array.length_toList, h1]; omega
      rw [fillL_eq pl r _ (by rw [hsz]; exact h.2), hz]
section ops
variable {P : Program} {ops : Array Oper} {Q : Post} {ds : List Deferred} {f : Env} {w w' : World} {rest : List Oper}
variable {d : Option Nat} {ty : TypeId} {pos : String} {af : Array Edge} {g : Option (Nat × Bool)}
theorem run_places : ∀ (fs : List Field) (pl : List (Nat × Nat)), fs.map (fun f => (f.offset, (P.info? f.type).map (·.size))) = pl.map (fun p => (p.1, some p.2)) →
    (fs.mapM fun f => do pure (f.offset, ← sizeOf f.type) : Sem (List (Nat × Nat))).run P w = .ok pl w
  | [], [], _ => rfl
  | [], _ :: _, h => by simp at h
  | _ :: _, [], h => by simp at h
  | f :: fs, p :: pl, h => by
    simp only [List.map_cons, List.cons.injEq, Prod.mk.injEq] at h
    obtain ⟨⟨h1, h2⟩, h3⟩ := h
    have hs : (sizeOf f.type).run P w = .ok p.2 w := by
      cases hi : P.info? f.type with
      | none => rw [hi] at h2; cases h2
      | some i => rw [hi] at h2; simp at h2; simp [sizeOf, typeInfo, hi, h2]
    simp only [List.mapM_cons, Sem.run_bind, hs, Result.andThen_ok, Sem.run_pure, run_places fs pl h3, h1]
theorem wr_build {t : TypeId} {z : Value} {n by' : Nat} {pl : List (Nat × Nat)} {parts : Array (Nat × Operand)} {ps : List (Nat × Value)} {cs : List Value} [I : Info P t z n by'] [L : Plc P t pl] (hw : wantedE ops f ⟨d, .build t parts, ty, pos, af, g⟩ = true)
    (hp : parts.toList.map (fun p => (p.1, ev f p.2)) = ps) (hok : fillOk pl z.cells.size ps = true) (hc : fillL pl z.cells.toList ps = cs) (kk : Wr P ops Q ds rest (setO f d (.agg cs.toArray)) w) :
    Wr P ops Q ds (⟨d, .build t parts, ty, pos, af, g⟩ :: rest) f w := by
  obtain ⟨fs, h1, h2⟩ := L.h
  have hpl : ∀ F : Nat × Operand → Nat × Value, (∀ p, F p = (p.1, ev f p.2)) → (parts.map F).toList = ps := fun F hF => by
    rw [← hp, Array.toList_map]; exact List.map_congr_left fun p _ => hF p
  refine wr_val (v := .agg cs.toArray) hw ?_ kk
  simp only [execOp, Instr.build, Sem.run_bind, run_zero I, Result.andThen_ok, underlying, run_program, h1, Sem.run_pure]
  rw [Array.mapM_eq_mapM_toList]
  simp only [Sem.run_map, run_places fs.toList pl h2, Result.andThen_ok]
  rw [hpl _ (fun p => rfl)]
  have := fillL_eq pl ps z.cells hok
  rw [hc] at this
  simp only [List.getElem?_toArray, this, Sem.run_pure, Result.andThen_ok]

/-! ### Interface values -/
theorem wr_bin {op : BinOp} {t t' : TypeId} {x y : Operand} {a b v : Value} (hw : wantedE ops f ⟨d, .binOp op t x y t', ty, pos, af, g⟩ = true) (hx : ev f x = a) (hy : ev f y = b) (hg : (eqGuard op t x y a b).run P w = .ok () w) (h : (binOp op t a b).run P w = .ok v w)
    (kk : Wr P ops Q ds rest (setO f d v) w) : Wr P ops Q ds (⟨d, .binOp op t x y t', ty, pos, af, g⟩ :: rest) f w :=
  wr_v (s := do eqGuard op t x y (ev f x) (ev f y); binOp op t (ev f x) (ev f y)) hw rfl (by rw [hx, hy]; simp only [Sem.run_bind, hg, Result.andThen_ok, h]) kk
theorem equalIn_nil_nil {t : TypeId} {ms : Array (String × TypeId)} (n : Nat) (U : P.underlying t = some (.interface ms)) : (Op.equalIn (n + 1) t .nilIface .nilIface).run P w = .ok true w := by
  simp only [Op.equalIn, underlying, Sem.run_bind, run_program, Result.andThen_ok, U, Sem.run_pure]
theorem equalIn_if_nil {t t2 : TypeId} {v : Value} {ms : Array (String × TypeId)} (n : Nat) (U : P.underlying t = some (.interface ms)) : (Op.equalIn (n + 1) t (.iface t2 v) .nilIface).run P w = .ok false w := by
  simp only [Op.equalIn, underlying, Sem.run_bind, run_program, Result.andThen_ok, U, Sem.run_pure]
theorem equalIn_if_types {t t1 t2 : TypeId} {v1 v2 : Value} {ms : Array (String × TypeId)} (n : Nat) (U : P.underlying t = some (.interface ms)) (h : t1 ≠ t2) : (Op.equalIn (n + 1) t (.iface t1 v1) (.iface t2 v2)).run P w = .ok false w := by
  simp only [Op.equalIn, underlying, Sem.run_bind, run_program, Result.andThen_ok, U, Sem.run_pure]
  rw [if_pos h]; rfl
theorem wr_eqnil_t {t t' : TypeId} {x : Operand} {ms : Array (String × TypeId)} [U : Und P t (.interface ms)] (hw : wantedE ops f ⟨d, .binOp .eql t x (.const .nilIface) t', ty, pos, af, g⟩ = true) (hx : ev f x = .nilIface)
    (kk : Wr P ops Q ds rest (setO f d (.bool true)) w) : Wr P ops Q ds (⟨d, .binOp .eql t x (.const .nilIface) t', ty, pos, af, g⟩ :: rest) f w :=
  wr_bin hw hx rfl (by simp [eqGuard]) (by
    have : (Op.equal t .nilIface .nilIface).run P w = .ok true w := equalIn_nil_nil 9999 U.h
    show ((do pure (Value.bool (← Op.equal t .nilIface .nilIface)) : Sem Value)).run P w = _
    simp only [Sem.run_bind, this, Result.andThen_ok]; rfl) kk
theorem wr_eqnil_f {t t' t2 : TypeId} {x : Operand} {v : Value} {ms : Array (String × TypeId)} [U : Und P t (.interface ms)] (hw : wantedE ops f ⟨d, .binOp .eql t x (.const .nilIface) t', ty, pos, af, g⟩ = true) (hx : ev f x = .iface t2 v)
    (kk : Wr P ops Q ds rest (setO f d (.bool false)) w) : Wr P ops Q ds (⟨d, .binOp .eql t x (.const .nilIface) t', ty, pos, af, g⟩ :: rest) f w :=
  wr_bin hw hx rfl (by simp [eqGuard]) (by
    have : (Op.equal t (.iface t2 v) .nilIface).run P w = .ok false w := equalIn_if_nil 9999 U.h
    show ((do pure (Value.bool (← Op.equal t (.iface t2 v) .nilIface)) : Sem Value)).run P w = _
    simp only [Sem.run_bind, this, Result.andThen_ok]; rfl) kk
theorem wr_nenil_f {t t' : TypeId} {x : Operand} {ms : Array (String × TypeId)} [U : Und P t (.interface ms)] (hw : wantedE ops f ⟨d, .binOp .neq t x (.const .nilIface) t', ty, pos, af, g⟩ = true) (hx : ev f x = .nilIface)
    (kk : Wr P ops Q ds rest (setO f d (.bool false)) w) : Wr P ops Q ds (⟨d, .binOp .neq t x (.const .nilIface) t', ty, pos, af, g⟩ :: rest) f w :=
  wr_bin hw hx rfl (by simp [eqGuard]) (by
    have : (Op.equal t .nilIface .nilIface).run P w = .ok true w := equalIn_nil_nil 9999 U.h
    show ((do pure (Value.bool (!(← Op.equal t .nilIface .nilIface))) : Sem Value)).run P w = _
    simp only [Sem.run_bind, this, Result.andThen_ok]; rfl) kk
theorem wr_nenil_t {t t' t2 : TypeId} {x : Operand} {v : Value} {ms : Array (String × TypeId)} [U : Und P t (.interface ms)] (hw : wantedE ops f ⟨d, .binOp .neq t x (.const .nilIface) t', ty, pos, af, g⟩ = true) (hx : ev f x = .iface t2 v)
    (kk : Wr P ops Q ds rest (setO f d (.bool true)) w) : Wr P ops Q ds (⟨d, .binOp .neq t x (.const .nilIface) t', ty, pos, af, g⟩ :: rest) f w :=
  wr_bin hw hx rfl (by simp [eqGuard]) (by
    have : (Op.equal t (.iface t2 v) .nilIface).run P w = .ok false w := equalIn_if_nil 9999 U.h
    show ((do pure (Value.bool (!(← Op.equal t (.iface t2 v) .nilIface))) : Sem Value)).run P w = _
    simp only [Sem.run_bind, this, Result.andThen_ok]; rfl) kk
theorem wr_eqif {t t' t1 t2 : TypeId} {x y : Operand} {v1 v2 : Value} {r : Bool} (hw : wantedE ops f ⟨d, .binOp .eql t x y t', ty, pos, af, g⟩ = true) (hx : ev f x = .iface t1 v1) (hy : ev f y = .iface t2 v2) (h : (binOp .eql t (.iface t1 v1) (.iface t2 v2)).run P w = .ok (.bool r) w)
    (kk : Wr P ops Q ds rest (setO f d (.bool r)) w) : Wr P ops Q ds (⟨d, .binOp .eql t x y t', ty, pos, af, g⟩ :: rest) f w :=
  wr_bin hw hx hy (by simp [eqGuard]) h kk
theorem run_eqif_types {t t1 t2 : TypeId} {v1 v2 : Value} {ms : Array (String × TypeId)} (U : Und P t (.interface ms)) (h : t1 ≠ t2) : (binOp .eql t (.iface t1 v1) (.iface t2 v2)).run P w = .ok (.bool false) w := by
  have : (Op.equal t (.iface t1 v1) (.iface t2 v2)).run P w = .ok false w := equalIn_if_types 9999 U.h h
  show ((do pure (Value.bool (← Op.equal t (.iface t1 v1) (.iface t2 v2))) : Sem Value)).run P w = _
  simp only [Sem.run_bind, this, Result.andThen_ok]; rfl
/-- A call of a function of the library's that the model itself answers. -/
theorem wr_callX {h : FuncId} {args : Array Operand} {ats : Array TypeId} {vs : List Value} {v : Value} (hw : wantedE ops f ⟨d, .call { callee := .value (.func h), args := args, argTypes := ats }, ty, pos, af, g⟩ = true)
    (hc : (callFunc h vs.toArray).run P w = .ok (.value v) w) (hargs : args.toList.map (ev f) = vs) (kk : Wr P ops Q ds rest (setO f d v) w) : Wr P ops Q ds (⟨d, .call { callee := .value (.func h), args := args, argTypes := ats }, ty, pos, af, g⟩ :: rest) f w := by
  have hm : args.map (ev f) = vs.toArray := by
    rw [← hargs]; apply Array.toList_inj.1; simp
  refine wr_val hw ?_ kk
  simp only [execOp, resolve, hm, ev, Deferred.ofValue, Sem.run_bind, Sem.run_pure, Result.andThen_ok, invoke, Array.empty_append, Array.append_empty]
  exact hc
/-- A method called on an interface value. -/
theorem run_invoke {x : Operand} {name : String} {args : Array Operand} {ats : Array TypeId} {t : TypeId} {v rv : Value} {h : FuncId} {vs : List Value} (hx : ev f x = .iface t v) (hm : (Go.method (P.types.size + Made.depth) t v name).run P w = .ok (h, rv) w) (hargs : args.toList.map (ev f) = vs) :
    (execOp (ev f) ⟨d, .call { callee := .invoke x name, args := args, argTypes := ats }, ty, pos, af, g⟩).run P w = (callFunc h (rv :: vs).toArray).run P w := by
  have hm' : args.map (ev f) = vs.toArray := by
    rw [← hargs]; apply Array.toList_inj.1; simp
  have he : (#[Value.iface t v] ++ vs.toArray).extract 1 (#[Value.iface t v] ++ vs.toArray).size = vs.toArray := by
    apply Array.toList_inj.1; simp
  have h0 : (#[Value.iface t v] ++ vs.toArray)[0]? = some (.iface t v) := by simp
  simp only [execOp, resolve, hm', hx, Sem.run_bind, Sem.run_pure, Result.andThen_ok, invoke, h0, he, callMethod, run_program, hm]
  rw [show #[rv] ++ vs.toArray = (rv :: vs).toArray from by apply Array.toList_inj.1; simp]
theorem wr_invokeX {x : Operand} {name : String} {args : Array Operand} {ats : Array TypeId} {t : TypeId} {v rv u : Value} {h : FuncId} {vs : List Value} (hw : wantedE ops f ⟨d, .call { callee := .invoke x name, args := args, argTypes := ats }, ty, pos, af, g⟩ = true)
    (hx : ev f x = .iface t v) (hm : (Go.method (P.types.size + Made.depth) t v name).run P w = .ok (h, rv) w) (hc : (callFunc h (rv :: vs).toArray).run P w = .ok (.value u) w) (hargs : args.toList.map (ev f) = vs) (kk : Wr P ops Q ds rest (setO f d u) w) :
    Wr P ops Q ds (⟨d, .call { callee := .invoke x name, args := args, argTypes := ats }, ty, pos, af, g⟩ :: rest) f w :=
  wr_val hw (by rw [run_invoke hx hm hargs]; exact hc) kk
theorem wr_invoke {x : Operand} {name : String} {args : Array Operand} {ats : Array TypeId} {t : TypeId} {v rv : Value} {h : FuncId} {vs : List Value} {R : Value → World → Prop} [E : Ent P h] (hw : wantedE ops f ⟨d, .call { callee := .invoke x name, args := args, argTypes := ats }, ty, pos, af, g⟩ = true)
    (hm : (Go.method (P.types.size + Made.depth) t v name).run P w = .ok (h, rv) w) (hc : Ca P h (rv :: vs).toArray w R) (hx : ev f x = .iface t v) (hargs : args.toList.map (ev f) = vs) (kk : ∀ v w', R v w' → Wr P ops Q ds rest (setO f d v) w') :
    Wr P ops Q ds (⟨d, .call { callee := .invoke x name, args := args, argTypes := ats }, ty, pos, af, g⟩ :: rest) f w := by
  refine wr_step hw ?_
  rw [run_invoke hx hm hargs, callFunc_run E.h]
  exact hc.inn _ kk
theorem wr_assert {x : Operand} {xT t2 : TypeId} {ok : Bool} {a v : Value} (hw : wantedE ops f ⟨d, .typeAssert x xT t2 ok, ty, pos, af, g⟩ = true) (hx : ev f x = a) (h : (Instr.typeAssert a xT t2 ok).run P w = .ok v w) (kk : Wr P ops Q ds rest (setO f d v) w) :
    Wr P ops Q ds (⟨d, .typeAssert x xT t2 ok, ty, pos, af, g⟩ :: rest) f w :=
  wr_v (s := Instr.typeAssert (ev f x) xT t2 ok) hw rfl (by rw [hx]; exact h) kk
end ops

/-! ### A range over a function -/
abbrev yieldV (l : Nat) : Value := .func (.yield l) #[] #[]
theorem rp_foldl {n : Nat} {ds : List Deferred} : ∀ (l : List (Tmp × Value)) (t0 : Array Value) (f : Env), Rp n ds ⟨t0, ds⟩ f → (∀ p ∈ l, p.1 < n) → Rp n ds ⟨l.foldl (fun t p => t.setIfInBounds p.1 p.2) t0, ds⟩ (l.foldl (fun (f : Env) p => f.set p.1 p.2) f)
  | [], _, _, h, _ => h
  | p :: l, t0, f, h, hl => rp_foldl l _ _ (h.put (d := some p.1) (by simpa [dstOk] using hl p (by simp)) p.2) fun q hq => hl q (by simp [hq])
/-- A call of a round's yield: the loop's left sides are assigned, the body is walked, on the frame that the loop was entered with. -/
theorem callV_yield {P : Program} {n : Nat} {l : Nat} {rec : Loop} {args : List Value} {w : World} {R : Value → World → Prop} {f : Env} {f' : Env}
    (hl : w.heap[l]? = some (.loop rec)) (hsz : args.length = rec.params.size) (hrp : Rp n [] ⟨rec.tmps, []⟩ f) (hps : rec.params.toList.all (Nat.blt · n) = true)
    (hok : codeOk n rec.assign = true ∧ codeOk n rec.body = true) (hf' : (rec.params.toList.zip args).foldl (fun (f : Env) p => f.set p.1 p.2) f = f')
    (h : Wc (some l) P n rec.assign (thenE (fun ds f w' => ∃ rec', w'.heap[l]? = some (.loop rec') ∧ rec'.state = .ready ∧ Wc (some l) P n rec.body (fun e ds f w'' => ∃ rec'', w''.heap[l]? = some (.loop rec'') ∧ (match e with
        | .normal => R (.bool true) (w''.putObj l (.loop { rec'' with state := .ready, pending := none }))
        | .ret => R (.bool false) (w''.putObj l (.loop { rec'' with state := .done, pending := some .ret }))
        | .exit id => R (.bool false) (w''.putObj l (.loop { rec'' with state := .done, pending := some (.exit id) }))
        | _ => False)) ds f (w'.putObj l (.loop { rec' with state := .busy }))) (fun _ _ _ _ => False)) [] f' w) : CallV P (yieldV l) args.toArray w R := by
  have hrun : ((do let d ← Deferred.ofValue (yieldV l) args.toArray; invoke d.target d.args : Sem Next)).run P w = .ok (.round l rec.fn ((rec.params.zip args.toArray).foldl (fun tmps (t, a) => tmps.setIfInBounds t a) rec.tmps) rec.assign rec.body) w := by
    simp only [Deferred.ofValue, Sem.run_bind, Sem.run_pure, Result.andThen_ok, invoke, Array.empty_append]
    exact run_yield hl (by simpa using hsz)
  refine CallV.mk ?_
  rw [hrun]
  have htm : (rec.params.zip args.toArray).foldl (fun tmps (t, a) => tmps.setIfInBounds t a) rec.tmps = (rec.params.toList.zip args).foldl (fun t p => t.setIfInBounds p.1 p.2) rec.tmps := by
    rw [← Array.foldl_toList]; simp
  rw [htm]
  have hr := rp_foldl (n := n) (ds := []) (rec.params.toList.zip args) rec.tmps f hrp fun p hp => by
    have := List.all_eq_true.1 hps p.1 (List.of_mem_zip hp).1
    simpa using this
  rw [hf'] at hr
  refine roundIn_of_wpIn (F := Fence.wide) trivial (wpIn_mono (h.up hok.1 _ hr) ?_)
  rintro e a₁ w₁ ⟨ds₁, f₁, hr₁, hq⟩
  cases e with
  | normal =>
    obtain ⟨rec', h1, h2, h3⟩ := hq
    refine ⟨_, run_beginRound h1 h2, wpIn_mono (h3.up hok.2 _ hr₁) ?_⟩
    rintro e a₂ w₂ ⟨ds₂, f₂, hr₂, rec'', h4, h5⟩
    cases e with
    | normal => exact ⟨_, _, run_endRound none h4, h5⟩
    | ret => exact ⟨_, _, run_endRound (some .ret) h4, h5⟩
    | exit id => exact ⟨_, _, run_endRound (some (.exit id)) h4, h5⟩
    | _ => exact h5.elim
  | _ => exact hq.elim
/-- for .. := range g { .. }: g, a function value, is called with the loop's yield; what it leaves pending is done then. -/
theorem wc_rangeFunc {P : Program} {n : Nat} {Q : Post} {ds : List Deferred} {f : Env} {w : World} {x : Operand} {ps : Array Tmp} {assign body : Code} {gf : FuncId} {cap : Array Value} [E : Ent P gf]
    (hx : ev f x = .func (.func gf) #[] cap)
    (h : ∀ (fn : FuncId) (tm : Array Value), Rp n [] ⟨tm, []⟩ f → codeOk n assign = true ∧ codeOk n body = true ∧ ps.toList.all (Nat.blt · n) = true →
      Ca P gf (#[yieldV (w.heap.size + 1)] ++ cap) ((w.alloc (.deferred (some []))).alloc (.loop { state := .ready, pending := none, fn, tmps := tm, params := ps, assign, body, defers := w.heap.size }))
        fun _ w' => ∃ rec, w'.heap[w.heap.size + 1]? = some (.loop rec) ∧ rec.state ≠ .busy ∧ (match rec.pending with
          | none => Q .normal ({ target := .collected w.heap.size, args := #[] } :: ds) f (w'.putObj (w.heap.size + 1) (.loop { rec with state := .exhausted }))
          | some c => codeOk n c = true ∧ Wc none P n c Q ({ target := .collected w.heap.size, args := #[] } :: ds) f (w'.putObj (w.heap.size + 1) (.loop { rec with state := .exhausted })))) :
    Wc none P n (.rangeFunc x ps assign body) Q ds f w := by
  refine Wc.mk ?_
  intro hok a ha
  simp only [codeOk, Bool.and_eq_true] at hok
  obtain ⟨hox, hops, hoa, hob⟩ := hok
  refine wpIn_rangeFunc ?_
  intro fn hfn
  have hev : a.eval x = .func (.func gf) #[] cap := (ha.eval hox).trans hx
  have hrp : Rp n [] ⟨a.tmps, []⟩ f := ⟨ha.size, rfl, ha.get⟩
  have hca := h fn a.tmps hrp ⟨hoa, hob, hops⟩
  refine ⟨w.heap.size + 1, [{ target := .collected w.heap.size, args := #[] }], _, { target := .fn (.func gf) cap, args := #[yieldV (w.heap.size + 1)] }, ((w.alloc (.deferred (some []))).alloc (.loop { state := .ready, pending := none, fn, tmps := a.tmps, params := ps, assign, body, defers := w.heap.size })), gf, #[yieldV (w.heap.size + 1)] ++ cap, _, run_enterLoop_outer _ _ _ _ _, ?_, fun _ _ => trivial, ?_, (fun h => by cases h), hca.inn' _ ?_⟩
  · simp only [resolve, rangeCall, hev, Deferred.ofValue, Sem.run_pure]
    simp [Act.eval]
  · simp only [invoke]; exact callFunc_run E.h _ _
  · rintro v w' ⟨rec, h1, h2, h3⟩
    refine ⟨rec.pending, _, run_endLoop h1 h2, ?_⟩
    have hrp' : Rp n ({ target := .collected w.heap.size, args := #[] } :: ds) { a with defers := [{ target := .collected w.heap.size, args := #[] }] ++ a.defers } f := ⟨ha.size, by simp [ha.dfr], ha.get⟩
    cases hp : rec.pending with
    | none => rw [hp] at h3; exact ⟨_, f, hrp', h3⟩
    | some c => rw [hp] at h3; exact h3.2.up h3.1 _ hrp'
/-! ### For the walk -/
@[reducible] def cmpP (op : BinOp) (a b : Int) : Prop := match op with
  | .lss => a < b
  | .leq => a ≤ b
  | .gtr => b < a
  | .geq => b ≤ a
  | .eql => a = b
  | .neq => a ≠ b
  | _ => False
@[reducible] def cmpN (op : BinOp) (a b : Int) : Prop := match op with
  | .lss => b ≤ a
  | .leq => b < a
  | .gtr => a ≤ b
  | .geq => a < b
  | .eql => a ≠ b
  | .neq => a = b
  | _ => False
theorem cmpT {op : BinOp} {a b : Int} (h : cmpP op a b) : (Op.intCmp op a b : Sem Value) = pure (.bool true) := by
  cases op <;> first | exact cmp_lt_t h | exact cmp_le_t h | exact cmp_gt_t h | exact cmp_ge_t h | exact cmp_eq_t h | exact cmp_ne_t h | exact absurd h (fun h => h)
theorem cmpF {op : BinOp} {a b : Int} (h : cmpN op a b) : (Op.intCmp op a b : Sem Value) = pure (.bool false) := by
  cases op <;> first | exact cmp_lt_f h | exact cmp_le_f h | exact cmp_gt_f h | exact cmp_ge_f h | exact cmp_eq_f h | exact cmp_ne_f h | exact absurd h (fun h => h)
@[reducible] def kIn (k : IntKind) (n : Int) : Prop := match k with
  | .i64 => -9223372036854775808 ≤ n ∧ n ≤ 9223372036854775807
  | .u64 => 0 ≤ n ∧ n ≤ 18446744073709551615
  | .i32 => -2147483648 ≤ n ∧ n ≤ 2147483647
  | .u32 => 0 ≤ n ∧ n ≤ 4294967295
  | .u16 => 0 ≤ n ∧ n ≤ 65535
  | .u8 => 0 ≤ n ∧ n ≤ 255
  | _ => False
theorem w_fit {k : IntKind} {n : Int} (h : kIn k n) : k.wrap n = n := by
  cases k <;> first | exact w_i64 h | exact w_u64 h | exact w_i32 h | exact w_u32 h | exact w_u16 h | exact w_u8 h | exact absurd h (fun h => h)
theorem hAl {w : World} {o o' : Obj} {b : Nat} (h : b ≠ w.heap.size) (k : w.heap[b]? = some o) : (w.alloc o').heap[b]? = some o := (heap_alloc_ne w o' h).trans k
theorem hPu {w : World} {b c : Nat} {o o' : Obj} (h : c ≠ b) (k : w.heap[c]? = some o) : (w.putObj b o').heap[c]? = some o := (heap_put_ne w o' h).trans k
end Go.V
