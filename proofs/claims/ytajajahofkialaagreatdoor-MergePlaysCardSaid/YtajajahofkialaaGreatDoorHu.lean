/- Drop. -/
import Derived.Test.YtajajahofkialaaGreatDoorHt
namespace Go.Proofs.YtajajahofkialaaGreatDoor
open Go Go.V Go.RowKit
set_option linter.unusedVariables false
set_option linter.unusedSimpArgs false

/- The head: $1 after New. -/
/- A set of a few: $1 slice, $2 bytes, $3 world, $4 stem, $5 SlR, $6 bytes small, $7 how many. -/
/-- An iterator over a map, some of whose entries may have gone. -/
def ItD (w : World) (r mb : Nat) (es : Array MapEntry) (c since : Nat) (seen : Array Nat) (last : Nat) : Prop :=
  w.heap[mb]? = some (.map es c) ∧ w.heap[r]? = some (.mapIter (some mb) since seen last) ∧ (es.toList.map (·.born)).Nodup ∧ (∀ e ∈ es.toList, e.born < c) ∧ (∀ e ∈ es.toList, e.born < since) ∧ since ≤ last ∧ since ≤ c
theorem ItD.keep {D : Nat → Prop} {w w' : World} {r mb : Nat} {es : Array MapEntry} {c since last : Nat} {seen : Array Nat} (h : ItD w r mb es c since seen last) (k : Keeps D w w') (hr : ¬ D r) (hm : ¬ D mb) : ItD w' r mb es c since seen last :=
  ⟨k.heap h.1 hm, k.heap h.2.1 hr, h.2.2⟩
theorem run_nextD {P : Program} {w : World} {r mb : Nat} {es : Array MapEntry} {c since last : Nat} {seen : Array Nat} (t : TypeId) (h : ItD w r mb es c since seen last) :
    (∃ w', (Instr.next (.pointer (some ⟨r, 0, none⟩)) false t).run P w = .ok (.tuple #[.bool false]) w' ∧ (∀ e ∈ es.toList, e.born ∈ seen.toList) ∧ Keeps NoB w w') ∨
    (∃ w' e, (Instr.next (.pointer (some ⟨r, 0, none⟩)) false t).run P w = .ok (.tuple #[.bool true, e.key, e.val]) w' ∧ e ∈ es.toList ∧ e.born ∉ seen.toList ∧ ItD w' r mb es c since (seen.push e.born) c ∧ Keeps (· = r) w w') := by
  obtain ⟨hb, hr, hbn, hbc, hbs, hsl, hsc⟩ := h
  have hrm : r ≠ mb := by rintro rfl; rw [hb] at hr; cases hr
  have hget1 : (getObj r).run P w = .ok (.mapIter (some mb) since seen last) w := by simp [getObj, Sem.run, hr]
  have hget2 : (getObj mb).run P w = .ok (.map es c) w := by simp [getObj, Sem.run, hb]
  have htest := next_test_false seen es since last hbs hsl
  generalize hL : es.filter (fun e => !seen.contains e.born) = L
  have hmemL : ∀ x, x ∈ L.toList → x ∈ es.toList ∧ x.born ∉ seen.toList := fun x hx => by
    rw [← hL] at hx
    simp at hx ⊢
    exact hx
  have e1 : L.filter (fun x => decide (x.born < since)) = L := Array.filter_eq_self.2 (fun x hx => by simpa using hbs x (hmemL x (by simpa using hx)).1)
  have e2 : L.filter (fun x => decide (x.born ≥ since)) = #[] := by
    rw [Array.filter_eq_empty_iff]
    intro x hx
    have := hbs x (hmemL x (by simpa using hx)).1
    simp; omega
  by_cases h0 : L.size = 0
  · left
    have hLe : L = #[] := Array.eq_empty_of_size_eq_zero h0
    refine ⟨w, ?_, fun e hem => ?_, Keeps.refl _ _⟩
    · simp only [Instr.next, Sem.run_bind, hget1, hget2, Result.andThen_ok, htest, Bool.false_eq_true, if_false, hL, e1, e2]
      rw [hLe]
      simp [choose, Sem.run, Question.forced]
    · rcases Decidable.em (e.born ∈ seen.toList) with h | h
      · exact h
      · exfalso
        have : e ∈ L.toList := by rw [← hL]; simp at hem h ⊢; exact ⟨hem, h⟩
        rw [hLe] at this
        simp at this
  · right
    have hne : L.isEmpty = false := by simp [Array.isEmpty, h0]
    have hch : ∃ (j : Nat) (w1 : World), j < L.size ∧ w1.heap = w.heap ∧ Keeps NoB w w1 ∧ (choose (Question.mapNext L.size)).run P w = .ok j w1 := by
      by_cases hf : L.size ≤ 1
      · exact ⟨0, w, by omega, rfl, Keeps.refl _ _, by simp [choose, Sem.run, Question.forced, hf]⟩
      · exact ⟨_, w.drew, Nat.mod_lt _ (by omega), rfl, (Keeps.refl NoB w).drew, by
          simp only [choose, Sem.run, Question.forced, decide_eq_true_eq, hf, if_false, Question.cut]
          rfl⟩
    obtain ⟨j, w1, hj, hw1, hk1, hcr⟩ := hch
    have hm := hmemL L[j] (by simp)
    have hr1 : w1.heap[r]? = some (.mapIter (some mb) since seen last) := by rw [hw1]; exact hr
    have hset : (setObj r (.mapIter (some mb) since (seen.push L[j].born) c)).run P w1 = .ok () (w1.putObj r (.mapIter (some mb) since (seen.push L[j].born) c)) := by simp [setObj, Sem.run, hr1, World.putObj]
    have hb2 : (w1.putObj r (.mapIter (some mb) since (seen.push L[j].born) c)).heap[mb]? = some (.map es c) := by rw [heap_put_ne w1 _ (Ne.symm hrm), hw1]; exact hb
    have hr2 : (w1.putObj r (.mapIter (some mb) since (seen.push L[j].born) c)).heap[r]? = some (.mapIter (some mb) since (seen.push L[j].born) c) := heap_put_same hr1
    refine ⟨_, L[j], ?_, hm.1, hm.2, ⟨hb2, hr2, hbn, hbc, hbs, hsc, hsc⟩, (hk1.upD).put _ (fun _ => rfl)⟩
    have hcj : ((L.map some)[j]? : Option (Option MapEntry)) = some (some L[j]) := by simp [hj]
    simp only [Instr.next, Sem.run_bind, hget1, hget2, Result.andThen_ok, htest, Bool.false_eq_true, if_false, hL, e1, e2, hne, Array.empty_append, Array.append_empty, Array.size_map, hcr, hcj, hset, Sem.run_pure]
theorem wr_nextD {P : Program} {ops : Array Oper} {Q : Post} {ds : List Deferred} {f : Env} {w : World} {rest : List Oper} {d : Option Nat} {ty : TypeId} {pos : String} {af : Array Edge} {g : Option (Nat × Bool)} {x : Operand} {r mb : Nat} {es : Array MapEntry} {c since last : Nat} {seen : Array Nat} (hw : wantedE ops f ⟨d, .next x false, ty, pos, af, g⟩ = true) (hx : ev f x = .pointer (some ⟨r, 0, none⟩)) (h : ItD w r mb es c since seen last)
    (k1 : ∀ w', (∀ e ∈ es.toList, e.born ∈ seen.toList) → Keeps NoB w w' → Wr P ops Q ds rest (setO f d (.tuple #[.bool false])) w')
    (k2 : ∀ w' e, e ∈ es.toList → e.born ∉ seen.toList → ItD w' r mb es c since (seen.push e.born) c → Keeps (· = r) w w' → Wr P ops Q ds rest (setO f d (.tuple #[.bool true, e.key, e.val])) w') : Wr P ops Q ds (⟨d, .next x false, ty, pos, af, g⟩ :: rest) f w := by
  rcases run_nextD (P := P) ty h with ⟨w', hr, h1, h2⟩ | ⟨w', e, hr, h1, h2, h3, h4⟩
  · exact wr_v (s := Instr.next (ev f x) false ty) hw rfl (by rw [hx]; exact hr) (k1 w' h1 h2)
  · exact wr_v (s := Instr.next (ev f x) false ty) hw rfl (by rw [hx]; exact hr) (k2 w' e h1 h2 h3 h4)
theorem cnt_le (s : List Nat) (b : Nat) : ∀ l : List MapEntry, (l.filter fun y => decide (y.born ∉ s ++ [b])).length ≤ (l.filter fun y => decide (y.born ∉ s)).length
  | [] => Nat.le_refl _
  | a :: l => by
    have ih := cnt_le s b l
    rw [List.filter_cons, List.filter_cons]
    by_cases h1 : a.born ∉ s ++ [b]
    · have h2 : a.born ∉ s := fun h => h1 (List.mem_append_left _ h)
      rw [if_pos (decide_eq_true h1), if_pos (decide_eq_true h2), List.length_cons, List.length_cons]
      omega
    · rw [if_neg (by rw [decide_eq_false h1]; decide)]
      split
      · rw [List.length_cons]; omega
      · exact ih
theorem cnt_lt (s : List Nat) (x : MapEntry) : ∀ l : List MapEntry, x ∈ l → x.born ∉ s → (l.filter fun y => decide (y.born ∉ s ++ [x.born])).length < (l.filter fun y => decide (y.born ∉ s)).length
  | [], h, _ => by cases h
  | a :: l, h, hs => by
    rw [List.filter_cons, List.filter_cons]
    rcases List.mem_cons.1 h with rfl | h
    · have ih := cnt_le s x.born l
      have h1 : ¬ x.born ∉ s ++ [x.born] := fun h => h (by simp)
      rw [if_neg (by rw [decide_eq_false h1]; decide), if_pos (decide_eq_true hs), List.length_cons]
      omega
    · have ih := cnt_lt s x l h hs
      by_cases h1 : a.born ∉ s ++ [x.born]
      · have h2 : a.born ∉ s := fun h => h1 (List.mem_append_left _ h)
        rw [if_pos (decide_eq_true h1), if_pos (decide_eq_true h2), List.length_cons, List.length_cons]
        omega
      · rw [if_neg (by rw [decide_eq_false h1]; decide)]
        split
        · rw [List.length_cons]; omega
        · exact ih
theorem encT_inj {t u : TY} (h : encT t = encT u) : t = u := by
  obtain ⟨a, b⟩ := t
  obtain ⟨c, d⟩ := u
  simp only [encT, Value.agg.injEq, Array.mk.injEq, List.cons.injEq, Value.int.injEq, true_and, and_true] at h
  exact Prod.ext h.1 h.2
def dropW (Wn : WF) (id : Int) : WF := fun t => if t.1 = id then noneP else Wn t
structure DrI (w : World) (ab wb : Nat) (cb : List Nat) (Wn : WF) (id : Int) (r : Nat) (V : WF) (e : Int) (n : Nat) (w' : World) : Prop where
  mg : MgAt w' 0 ab wb cb V
  sub : ∀ t : TY, t.1 ≠ id → V t = Wn t
  sub2 : ∀ t : TY, V t = Wn t ∨ V t = noneP
  it : ∃ es c since seen last, ItD w' r wb es c since seen last ∧ (∀ x ∈ es.toList, x.born ∈ seen.toList → ∀ t : TY, x.key = encT t → t.1 ≠ id) ∧ n = (es.toList.filter fun x => decide (x.born ∉ seen.toList)).length
  ev : (e = 0 ∧ ∃ kk, Wn (id, kk) ≠ noneP) ∨ (e = 5 ∧ V = Wn)
  k : Keeps (mD wb cb) w w'
/-- The entries are the wants. -/
theorem mg_key {w : World} {ab wb : Nat} {cb : List Nat} {V : WF} {es : Array MapEntry} {c : Nat} (h : MgAt w 0 ab wb cb V) (hes : w.heap[wb]? = some (.map es c)) :
    (∀ t, V t ≠ noneP → ∃ x ∈ es.toList, x.key = encT t) ∧ (∀ x ∈ es.toList, ∃ t v, x.key = encT t ∧ x.val = v ∧ V t ≠ noneP) := by
  obtain ⟨M, ⟨es0, c0, hb, hk, hn, _, _⟩, hMW⟩ := h.want
  rw [hes] at hb
  cases hb
  have hWt : ∀ t, V t ≠ noneP ↔ t ∈ M.map (·.1) := fun t => by
    have h9 := hMW t
    unfold WantV at h9
    have h8 := posK_some (a := t) M 0
    constructor
    · intro hne
      rw [if_neg hne] at h9
      obtain ⟨v, h9, _⟩ := h9
      rw [h9] at h8
      rcases Decidable.em (t ∈ M.map (·.1)) with h | h
      · exact h
      · rw [(posK_none M 0).2 h] at h8; cases h8
    · intro hm e
      rw [if_pos e] at h9
      rw [h9] at h8
      have hp : posK t M 0 = none := by
        cases hp : posK t M 0 with
        | none => rfl
        | some iv => rw [hp] at h8; cases h8
      exact (posK_none M 0).1 hp hm
  constructor
  · intro t hne
    obtain ⟨p, hp, rfl⟩ := List.mem_map.1 ((hWt t).1 hne)
    obtain ⟨i, hi⟩ := List.getElem?_of_mem hp
    obtain ⟨e, he, h1, _⟩ := keysAre_get (j := 0) i hk hi
    exact ⟨e, List.mem_of_getElem? he, h1⟩
  · intro x hx
    obtain ⟨i, hi⟩ := List.getElem?_of_mem hx
    obtain ⟨p, hp, h1, h2⟩ := keysAre_at i hk hi
    exact ⟨p.1, p.2, h1, h2, (hWt p.1).2 (List.mem_map_of_mem (List.mem_of_getElem? hp))⟩
set_option maxRecDepth 100000 in
set_option maxHeartbeats 8000000 in
theorem dropM_ca {w : World} {ab wb : Nat} {cb : List Nat} {Wn : WF} (h : MgAt w 0 ab wb cb Wn) (id : Int) :
    Ca Tryz.prog 11 #[.pointer (some ⟨ab, 0, none⟩), .int .i64 id] w fun v w' => (∃ e : Int, v = .int .i64 e ∧ ((e = 0 ∧ ∃ kk, Wn (id, kk) ≠ noneP) ∨ (e = 5 ∧ ∀ kk, Wn (id, kk) = noneP))) ∧ MgAt w' 0 ab wb cb (dropW Wn id) ∧ Keeps (mD wb cb) w w' := by
  refine ca_of_body (args := [.pointer (some ⟨ab, 0, none⟩), .int .i64 id]) Tryz.func11 rfl (by kernel_rfl) ?_
  obtain ⟨M, hM, hMW⟩ := h.want
  have hc1 := h.cells
  (repeat first | (apply wr_move; exact rfl; with_reducible (conv => enter [6, 3]; whnf)) | (apply wr_assign; exact rfl; with_reducible (conv => enter [6, 3]; whnf)) | apply wr_end | apply wc_seq | apply wc_region | (apply wr_fieldAddr; iterate 2 exact rfl) | (apply wr_nilCheck; iterate 2 exact rfl) | (apply wr_load; (iterate 3 exact rfl); (focus repeat first | with_reducible assumption | exact heap_alloc_same _ _ | exact World.putObj_heap_same (by first | omega | (simp only [World.size_alloc, World.putObj_size, ne_eq]; omega)) | ((first | refine hAl ?_ ?_ | refine hPu ?_ ?_); focus first | omega | (simp only [World.size_alloc, World.putObj_size, ne_eq]; omega))); exact rfl; conv => enter [6, 3]; whnf))
  refine wr_rangeM rfl rfl hM ?_
  intro w2 hI2 hk2
  obtain ⟨r, hr⟩ : ∃ b, b = w.heap.size := ⟨_, rfl⟩
  rw [← hr] at hI2 ⊢
  obtain ⟨es, c, since, last, seen, i1, i2, i3, i4, i5, i6, i7, i7', i8, i9, _⟩ := hI2
  have hse : seen.toList = [] := by rw [i9]; rfl
  have hmDr : ∀ {w' : World} {n0 : Nat} {V : WF} {o : Obj}, MgAt w' n0 ab wb cb V → w'.heap[r]? = some o → (∀ es c, o ≠ .map es c) → ¬ mD wb cb r := fun hm ho hne e => by
    rcases e with e | e
    · obtain ⟨M', ⟨es', c', h1, _⟩, _⟩ := hm.want
      rw [← e, ho] at h1
      cases h1
      exact hne _ _ rfl
    · obtain ⟨j, hj⟩ := List.getElem?_of_mem e
      obtain ⟨C, ⟨es', c', h1, _⟩, _⟩ := hm.cnt j r hj
      rw [ho] at h1
      cases h1
      exact hne _ _ rfl
  (repeat first | apply wr_end | apply wc_block)
  refine wc_loopL (α := WF × Int × Nat) (fun s => [(0, .pointer (some ⟨ab, 0, none⟩)), (1, .int .i64 id), (5, .int .i64 s.2.1), (11, .pointer (some ⟨r, 0, none⟩))])
    (fun s ds w' => ds = [] ∧ DrI w ab wb cb Wn id r s.1 s.2.1 s.2.2 w') (fun s => s.2.2) (Wn, 5, (es.toList.filter fun x => decide (x.born ∉ seen.toList)).length)
    ⟨rfl, ⟨h.keepN hk2, fun _ _ => rfl, fun _ => .inl rfl, ⟨es, c, since, seen, last, ⟨i1, i8, i4, i5, i6, i7, i7'⟩, (fun x _ hx => by rw [hse] at hx; cases hx), rfl⟩, .inr ⟨rfl, rfl⟩, hk2.upD⟩⟩ ⟨rfl, rfl, rfl, rfl, trivial⟩ ?_
  clear i1 i2 i3 i4 i5 i6 i7 i7' i8 i9 hse es c since last seen
  rintro ⟨V, e, n⟩ ds f0 w3 ⟨rfl, ⟨h3, hsub, hsub2, ⟨es, c, since, seen, last, hI3, hdone, hn⟩, hev, hk3⟩⟩
  dsimp only at h3 hsub hsub2 hn hev ⊢
  (repeat first | apply wc_seq | apply wc_region)
  refine wr_nextD rfl rfl hI3 ?_ ?_
  · intro w4 hall hk4
    have hVid : ∀ kk, V (id, kk) = noneP := fun kk => by
      rcases Classical.em (V (id, kk) = noneP) with h | h
      · exact h
      · obtain ⟨x, hx, hk⟩ := (mg_key h3 hI3.1).1 _ h
        exact absurd rfl (hdone x hx (hall x hx) _ hk)
    have hVe : V = dropW Wn id := by
      funext t
      obtain ⟨a, b⟩ := t
      unfold dropW
      by_cases e : a = id
      · rw [if_pos e, e]; exact hVid b
      · rw [if_neg e]; exact hsub _ e
    (repeat first | (apply wr_move; exact rfl; with_reducible (conv => enter [6, 3]; whnf)) | (apply wr_assign; exact rfl; with_reducible (conv => enter [6, 3]; whnf)) | apply wr_end | apply wc_seq | apply wc_region | (apply wr_extract; (iterate 3 exact rfl); with_reducible (conv => enter [6, 3]; whnf)) | (apply wc_false; exact rfl) | (apply wc_exit; try simp only [thenE, inBlockE, bodyQ, ↓reduceIte, Nat.reduceEqDiff]) | (apply wc_ret; try simp only [thenE, inBlockE, bodyQ]))
    exact leave1 (v := .int .i64 e) rfl rfl ⟨⟨e, rfl, hev.imp (fun h => h) (fun h => ⟨h.1, fun kk => by rw [← h.2]; exact hVid kk⟩)⟩, hVe ▸ h3.keepN hk4, hk3.trans hk4.upD⟩
  · intro w4 x hx hxs hI4 hk4
    obtain ⟨⟨pa, pb⟩, pv, hxk, hxv, hVt⟩ := (mg_key h3 hI3.1).2 x hx
    have hrD := hmDr h3 hI3.2.1 (fun _ _ h => by cases h)
    have h4 : MgAt w4 0 ab wb cb V := h3.keep hk4 (fun e => by have h1 := h3.cells; rw [e, hI3.2.1] at h1; cases h1) (fun e => hrD (.inl e.symm)) (fun b hb e => hrD (.inr (by rw [← e]; exact hb))) (fun q e cs h1 => by rw [show q = r from e, hI3.2.1] at h1; cases h1)
    have hE4 : EntryAt w4 encT r wb ((pa, pb), pv) := ⟨es, c, since, seen.push x.born, x, hI4.1, hI4.2.1, by simp, hx, hI4.2.2.1, hxk, hxv⟩
    have hk4' : Keeps (mD wb cb) w w4 := hk3.trans' hk4 (fun i hi e => by omega)
    have hcl := cnt_lt seen.toList x es.toList hx hxs
    have huniq : ∀ y ∈ es.toList, y.born = x.born → y = x := fun y hy e => by
      obtain ⟨i, hi⟩ := List.getElem?_of_mem hy
      obtain ⟨j, hj⟩ := List.getElem?_of_mem hx
      have hij : (es.toList.map (·.born))[i]? = (es.toList.map (·.born))[j]? := by rw [List.getElem?_map, List.getElem?_map, hi, hj]; simp [e]
      have hil : i < (es.toList.map (·.born)).length := by rw [List.length_map]; exact (List.getElem?_eq_some_iff.1 hi).1
      have := (List.getElem?_inj hil hI3.2.2.1).1 hij
      subst this
      rw [hi] at hj
      exact Option.some.inj hj
    rw [hxk, hxv]
    (repeat first | apply wr_end | apply wc_seq | apply wc_region | apply wc_skip | apply wc_block | (apply wr_extract; (iterate 3 exact rfl); with_reducible (conv => enter [6, 3]; whnf)) | (apply wc_true; exact rfl))
    refine wr_entryM rfl rfl hE4 ?_
    (repeat first | (apply wr_alloc; exact rfl) | (apply wr_extract; (iterate 3 exact rfl); with_reducible (conv => enter [6, 3]; whnf)))
    refine wr_storeAll (cs := [.int .i64 pa, .int .i64 pb]) rfl rfl rfl (by intro u hu; simp at hu; rcases hu with rfl | rfl <;> rfl) (heap_alloc_same _ _) rfl rfl ?_
    refine wr_name ?_
    intro w5 hww5
    obtain ⟨bw5, hbw5⟩ : ∃ b, b = (w4).heap.size := ⟨_, rfl⟩
    have hkw5 : Keeps NoB w4 w5 := by rw [hww5]; exact ((Keeps.refl NoB w4).alloc _).put _ (fun h => by omega)
    have hcw5 : (w5).heap[bw5]? = some (.cells ([.int .i64 pa, .int .i64 pb]).toArray 78 (0, 0)) := by rw [hww5, hbw5]; exact World.putObj_heap_same (by simp)
    rw [← hbw5]
    clear hww5
    have hI5 := hI4.keep hkw5 (fun h => h) (fun h => h)
    have h5 := h4.keepN hkw5
    have hk5 := hk4'.trans hkw5.upD
    by_cases hid : pa = id
    rotate_left
    · (repeat first | (apply wr_move; exact rfl; with_reducible (conv => enter [6, 3]; whnf)) | apply wr_end | apply wc_seq | apply wc_region | apply wc_skip | (apply wr_fieldAddr; iterate 2 exact rfl) | (apply wr_load; (iterate 3 exact rfl); (focus repeat first | with_reducible assumption | exact heap_alloc_same _ _ | exact World.putObj_heap_same (by first | omega | (simp only [World.size_alloc, World.putObj_size, ne_eq]; omega)) | ((first | refine hAl ?_ ?_ | refine hPu ?_ ?_); focus first | omega | (simp only [World.size_alloc, World.putObj_size, ne_eq]; omega))); exact rfl; conv => enter [6, 3]; whnf) | (apply wr_cmp; (iterate 3 exact rfl); exact cmpF (by dsimp only [cmpN]; first | done | omega)) | (apply wc_false; exact rfl))
      refine ⟨(V, e, (es.toList.filter fun y => decide (y.born ∉ (seen.push x.born).toList)).length), by dsimp only; rw [Array.toList_push, hn]; exact hcl, ⟨by trivial, ⟨h5, hsub, hsub2, ⟨es, c, since, seen.push x.born, c, hI5, fun y hy hys t ht => ?_, rfl⟩, hev, hk5⟩⟩, rfl, rfl, rfl, rfl, trivial⟩
      rw [Array.toList_push] at hys
      rcases List.mem_append.1 hys with hys | hys
      · exact hdone y hy hys t ht
      · have hyx := huniq y hy (by simpa using hys)
        rw [hyx, hxk] at ht
        rw [← encT_inj ht]
        exact hid
    · subst hid
      have hdomt : inDom (pa, pb) := by
        rcases Classical.em (inDom (pa, pb)) with h | h
        · exact h
        · exact absurd (h5.dom _ h) hVt
      obtain ⟨k, rfl⟩ := Int.eq_ofNat_of_zero_le (show 0 ≤ pb by have := hdomt.2.2.1; dsimp only at this; omega)
      have hWne : Wn (pa, (k : Int)) ≠ noneP := fun e => by
        rcases hsub2 (pa, (k : Int)) with h | h
        · exact hVt (h.trans e)
        · exact hVt h
      (repeat first | (apply wr_move; exact rfl; with_reducible (conv => enter [6, 3]; whnf)) | apply wr_end | apply wc_seq | apply wc_region | (apply wr_fieldAddr; iterate 2 exact rfl) | (apply wr_load; (iterate 3 exact rfl); (focus repeat first | with_reducible assumption | exact heap_alloc_same _ _ | exact World.putObj_heap_same (by first | omega | (simp only [World.size_alloc, World.putObj_size, ne_eq]; omega)) | ((first | refine hAl ?_ ?_ | refine hPu ?_ ?_); focus first | omega | (simp only [World.size_alloc, World.putObj_size, ne_eq]; omega))); exact rfl; conv => enter [6, 3]; whnf) | (apply wr_cmp; (iterate 3 exact rfl); exact cmpT (by dsimp only [cmpP]; first | done | omega)) | (apply wc_true; exact rfl))
      refine wr_loadAll (cs := [.int .i64 pa, .int .i64 (k : Int)]) rfl rfl rfl hcw5 rfl ?_
      refine wr_build (ps := []) (cs := [.bool false, nilV]) rfl rfl rfl rfl ?_
      refine wr_call (vs := [.pointer (some ⟨ab, 0, none⟩), encT (pa, (k : Int)), SetV false nilV]) rfl (turnZ_ca h5 pa k hdomt (s := noneP) (sv := SetV false nilV) ⟨nilV, rfl, own_nilV _ _ _ _⟩ (nil_fine false) (by simp [noneP]) rfl hVt) rfl ?_
      rintro v w6 ⟨rfl, h6, hk6, hes6⟩
      obtain ⟨es', hes', hsubl⟩ := hes6 es c hI5.1
      have hrD5 := hmDr h5 hI5.2.1 (fun _ _ h => by cases h)
      have hI6 : ItD w6 r wb es' c since (seen.push x.born) c := ⟨hes', hk6.heap hI5.2.1 hrD5, hI5.2.2.1.sublist (hsubl.map _), fun y hy => hI5.2.2.2.1 y (hsubl.subset hy), fun y hy => hI5.2.2.2.2.1 y (hsubl.subset hy), hI5.2.2.2.2.2⟩
      have hgone := (mg_key h6 hes').2
      (repeat first | (apply wr_assign; exact rfl; with_reducible (conv => enter [6, 3]; whnf)) | apply wr_end | apply wc_region | (apply wr_nil; try simp only [thenE, inBlockE, bodyQ]))
      refine ⟨(updW V (pa, (k : Int)) noneP, 0, (es'.toList.filter fun y => decide (y.born ∉ (seen.push x.born).toList)).length), ?_, ⟨by trivial, ⟨h6, fun t ht => ?_, fun t => ?_, ⟨es', c, since, seen.push x.born, c, hI6, fun y hy hys t ht => ?_, rfl⟩, .inl ⟨rfl, _, hWne⟩, hk5.trans hk6⟩⟩, rfl, rfl, rfl, rfl, trivial⟩
      · dsimp only
        rw [Array.toList_push, hn]
        have := (hsubl.filter (fun y => decide (y.born ∉ seen.toList ++ [x.born]))).length_le
        omega
      · dsimp only
        rw [updW_ne _ (fun e => ht (by rw [e]))]; exact hsub t ht
      · show updW V (pa, (k : Int)) noneP t = _ ∨ updW V (pa, (k : Int)) noneP t = _
        unfold updW
        split
        · exact .inr rfl
        · exact hsub2 t
      · rw [Array.toList_push] at hys
        rcases List.mem_append.1 hys with hys | hys
        · exact hdone y (hsubl.subset hy) hys t ht
        · have hyx := huniq y (hsubl.subset hy) (by simpa using hys)
          rw [hyx, hxk] at ht
          obtain ⟨t2, _, h1, _, h3'⟩ := hgone y hy
          rw [hyx, hxk] at h1
          have := encT_inj h1
          rw [← this] at h3'
          exact absurd (updW_get _ _ _) h3'
end Go.Proofs.YtajajahofkialaaGreatDoor
