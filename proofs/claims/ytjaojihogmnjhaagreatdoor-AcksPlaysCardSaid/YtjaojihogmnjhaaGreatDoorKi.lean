/- acks in memory; New, of, refuse. -/
import Derived.Test.YtjaojihogmnjhaaGreatDoorKg
import Derived.Test.YtjaojihogmnjhaaGreatDoorKh
namespace Go.Proofs.YtjaojihogmnjhaaGreatDoor
open Go Go.V Go.RowKit
set_option linter.unusedVariables false
set_option linter.unusedSimpArgs false

/-- What is noted of a key: up to where each took it, up to where that is told, what was refused. -/
structure PN where
  T : Int → Nat
  told : Nat
  bad : List BD
def PN.new : PN := ⟨fun _ => 0, 0, []⟩
structure ND where
  nb : Nat
  tb : Nat
  v : Value
  p : PN
def ptrN (d : ND) : Value := .pointer (some ⟨d.nb, 0, none⟩)
abbrev NoteT : TypeId := 63
theorem note_bad : NoteT ≠ BadT := by decide
theorem note_acks : NoteT ≠ 56 := by decide
theorem bad_acks : BadT ≠ 56 := by decide
structure NoteAt (w : World) (base : Nat) (d : ND) : Prop where
  cell : w.heap[d.nb]? = some (.cells #[.map (some d.tb), .int .u64 ((d.p.told : Nat) : Int), d.v] NoteT (0, 0))
  tk : ∃ M : List (Int × Value), MapAt w (encI .i64) d.tb M ∧ ∀ id, (getM M id).getD (.int .u64 0) = .int .u64 ((d.p.T id : Nat) : Int)
  bad : OwnS w base BadT 3 d.v d.p.bad.length (d.p.bad.flatMap GB)
  sort : d.p.bad.Pairwise fun a b => a.1 < b.1
  few : d.p.bad.length ≤ 8
/-- The blocks of a note. -/
def nD (d : ND) : Nat → Prop := fun k => k = d.nb ∨ k = d.tb ∨ d.v.ownBlock = some k
theorem map_cells' {w : World} {α : Type} [DecidableEq α] {enc : α → Value} {b : Nat} {M : List (α × Value)} {c : Array Value} {T : TypeId} {fr : Nat × Nat} {g : Nat} (h : MapAt w enc b M) (hg : w.heap[g]? = some (.cells c T fr)) : g ≠ b := by
  rintro rfl
  obtain ⟨es, n, hb, _⟩ := h
  rw [hb] at hg
  cases hg
theorem ty_ne {w : World} {a b : Nat} {c1 c2 : Array Value} {T1 T2 : TypeId} {f1 f2 : Nat × Nat} (h1 : w.heap[a]? = some (.cells c1 T1 f1)) (h2 : w.heap[b]? = some (.cells c2 T2 f2)) (h : T1 ≠ T2) : a ≠ b := by
  rintro rfl
  rw [h1] at h2
  cases h2
  exact h rfl
theorem NoteAt.keep {D : Nat → Prop} {w w' : World} {base : Nat} {d : ND} (h : NoteAt w base d) (k : Keeps D w w') (hd : ∀ q, nD d q → ¬ D q) : NoteAt w' base d := by
  obtain ⟨M, h1, h2⟩ := h.tk
  exact ⟨k.heap h.cell (hd _ (.inl rfl)), ⟨M, h1.keep k (hd _ (.inr (.inl rfl))), h2⟩, h.bad.keep k (fun b hb => hd _ (.inr (.inr hb))), h.sort, h.few⟩
theorem NoteAt.lt {w : World} {base : Nat} {d : ND} (h : NoteAt w base d) {q : Nat} (hq : nD d q) : q < w.heap.size := by
  obtain ⟨M, h1, h2⟩ := h.tk
  rcases hq with rfl | rfl | hq
  · exact lt_of_heap h.cell
  · exact h1.lt
  · exact (h.bad.lt q hq).2.1
/-- A block of cells of another type is none of a note's. -/
theorem NoteAt.free {w : World} {base : Nat} {d : ND} (h : NoteAt w base d) {c : Nat} {cs : Array Value} {T : TypeId} {fr : Nat × Nat} (hc : w.heap[c]? = some (.cells cs T fr)) (h1 : NoteT ≠ T) (h2 : BadT ≠ T) : ¬ nD d c := by
  obtain ⟨M, hM, _⟩ := h.tk
  rintro (rfl | rfl | hq)
  · exact ty_ne h.cell hc h1 rfl
  · exact map_cells' hM hc rfl
  · obtain ⟨_, _, cur, hcur⟩ := h.bad.lt c hq
    exact ty_ne hcur hc h2 rfl
theorem NoteAt.dis {w : World} {base : Nat} {x y : ND} (hx : NoteAt w base x) (hy : NoteAt w base y) (h1 : x.nb ≠ y.nb) (h2 : x.tb ≠ y.tb) (h3 : ∀ k, x.v.ownBlock = some k → y.v.ownBlock ≠ some k) : ∀ q, nD y q → ¬ nD x q := by
  obtain ⟨M, hM, _⟩ := hx.tk
  obtain ⟨M', hM', _⟩ := hy.tk
  rintro q hyq hxq
  rcases hyq with rfl | rfl | hyq
  · rcases hxq with e | e | hxq
    · exact h1 e.symm
    · exact map_cells' hM hy.cell e
    · obtain ⟨_, _, cur, hcur⟩ := hx.bad.lt _ hxq
      exact ty_ne hy.cell hcur note_bad rfl
  · rcases hxq with e | e | hxq
    · exact map_cells' hM' hx.cell e.symm
    · exact h2 e.symm
    · obtain ⟨_, _, cur, hcur⟩ := hx.bad.lt _ hxq
      exact map_cells' hM' hcur rfl
  · obtain ⟨_, _, cur, hcur⟩ := hy.bad.lt _ hyq
    rcases hxq with e | e | hxq
    · subst e; exact ty_ne hx.cell hcur note_bad rfl
    · subst e; exact map_cells' hM hcur rfl
    · exact h3 q hxq hyq
structure AcksAt (w : World) (base ab mb : Nat) (L : List (KY × ND)) : Prop where
  cells : w.heap[ab]? = some (.cells #[.map (some mb)] 56 (0, 0))
  keys : MapAt w encK mb (mapL ptrN L)
  note : ∀ x ∈ L, NoteAt w base x.2
  sep : ∀ x ∈ L, ∀ y ∈ L, x.1 ≠ y.1 → x.2.nb ≠ y.2.nb ∧ x.2.tb ≠ y.2.tb ∧ ∀ k, x.2.v.ownBlock = some k → y.2.v.ownBlock ≠ some k
  tne : ∀ x ∈ L, x.2.tb ≠ mb
/-- The blocks that may be written. -/
def aD (mb : Nat) (L : List (KY × ND)) : Nat → Prop := fun k => k = mb ∨ ∃ x ∈ L, nD x.2 k
/-- No blocks but those that were written, or new ones. -/
def Sub (w : World) (L L' : List (KY × ND)) : Prop := ∀ x ∈ L', ∀ q, nD x.2 q → (∃ y ∈ L, nD y.2 q) ∨ w.heap.size ≤ q
def PL (L : List (KY × ND)) : List (KY × PN) := L.map fun x => (x.1, x.2.p)
theorem Sub.refl (w : World) (L : List (KY × ND)) : Sub w L L := fun x hx q hq => .inl ⟨x, hx, hq⟩
theorem Sub.trans {w w' : World} {L L' L'' : List (KY × ND)} (h : Sub w L L') (h' : Sub w' L' L'') (hs : w.heap.size ≤ w'.heap.size) : Sub w L L'' := fun x hx q hq => by
  rcases h' x hx q hq with ⟨y, hy, hq'⟩ | h1
  · exact h y hy q hq'
  · exact .inr (by omega)
/-- Worlds one behind the other. -/
theorem aD_trans {mb : Nat} {w w' w'' : World} {L L' : List (KY × ND)} (h : Keeps (aD mb L) w w') (k : Keeps (aD mb L') w' w'') (hs : Sub w L L') : Keeps (aD mb L) w w'' :=
  h.trans' k fun i hi e => by
    rcases e with rfl | ⟨x, hx, hq⟩
    · exact .inl rfl
    · rcases hs x hx i hq with h1 | h1
      · exact .inr h1
      · omega
theorem AcksAt.keep {w w' : World} {base ab mb : Nat} {L : List (KY × ND)} (h : AcksAt w base ab mb L) (k : Keeps NoB w w') : AcksAt w' base ab mb L :=
  ⟨k.heap h.cells (fun h => h), h.keys.keep k (fun h => h), fun x hx => (h.note x hx).keep k (fun _ _ h => h), h.sep, h.tne⟩
/-- .. when blocks of others are written. -/
theorem AcksAt.keepC {w w' : World} {base ab mb c : Nat} {L : List (KY × ND)} {cs : Array Value} {T : TypeId} {fr : Nat × Nat} (h : AcksAt w base ab mb L) (k : Keeps (· = c) w w') (hc : w.heap[c]? = some (.cells cs T fr)) (h1 : NoteT ≠ T) (h2 : BadT ≠ T) (h3 : 56 ≠ T) : AcksAt w' base ab mb L :=
  ⟨k.heap h.cells (ty_ne h.cells hc h3), h.keys.keep k (fun e => map_cells' h.keys hc e.symm), fun x hx => (h.note x hx).keep k (fun q hq e => by subst e; exact (h.note x hx).free hc h1 h2 hq), h.sep, h.tne⟩
theorem AcksAt.drew' {w : World} {base ab mb : Nat} {L : List (KY × ND)} (h : AcksAt w base ab mb L) : AcksAt w.drew base ab mb L := h.keep (Keeps.refl NoB w).drew
theorem AcksAt.nodup {w : World} {base ab mb : Nat} {L : List (KY × ND)} (h : AcksAt w base ab mb L) : (L.map (·.1)).Nodup := by
  obtain ⟨es, n, _, _, hn, _⟩ := h.keys
  rwa [keys_map] at hn
theorem AcksAt.free {w : World} {base ab mb : Nat} {L : List (KY × ND)} (h : AcksAt w base ab mb L) {c : Nat} {cs : Array Value} {T : TypeId} {fr : Nat × Nat} (hc : w.heap[c]? = some (.cells cs T fr)) (h1 : NoteT ≠ T) (h2 : BadT ≠ T) : ¬ aD mb L c := by
  rintro (rfl | ⟨x, hx, hq⟩)
  · exact map_cells' h.keys hc rfl
  · exact (h.note x hx).free hc h1 h2 hq
theorem getPL (L : List (KY × ND)) (k : KY) : getL (PL L) k = (getL L k).map (·.p) := by
  unfold getL PL
  rw [List.find?_map]
  simp [Function.comp_def]
theorem putPL (L : List (KY × ND)) (k : KY) (d : ND) : PL (putL L k d) = putL (PL L) k d.p := by
  unfold putL PL
  have hk : (L.map fun x => (x.1, x.2.p)).map (·.1) = L.map (·.1) := by simp [Function.comp_def]
  rw [hk]
  by_cases h : k ∈ L.map (·.1)
  · rw [if_pos h, if_pos h, List.map_map, List.map_map]
    apply List.map_congr_left
    intro p _
    by_cases hp : p.1 = k <;> simp [hp]
  · rw [if_neg h, if_neg h]
    simp
theorem AcksAt.upd {w w' : World} {base ab mb : Nat} {L : List (KY × ND)} {k : KY} {d d' : ND} (h : AcksAt w base ab mb L) (hg : getL L k = some d) (hn : d'.nb = d.nb) (ht : d'.tb = d.tb)
    (hv : ∀ q, d'.v.ownBlock = some q → d.v.ownBlock = some q ∨ w.heap.size ≤ q) (hN : NoteAt w' base d') (hk : Keeps (nD d) w w') : AcksAt w' base ab mb (putL L k d') ∧ Keeps (aD mb L) w w' ∧ Sub w L (putL L k d') := by
  have hmem := getL_mem hg
  have hd := h.note _ hmem
  have hkey : k ∈ L.map (·.1) := List.mem_map.2 ⟨_, hmem, rfl⟩
  have hml : mapL ptrN (putL L k d') = mapL ptrN L := by
    unfold mapL putL
    rw [if_pos hkey, List.map_map]
    apply List.map_congr_left
    intro p hp
    by_cases hpk : p.1 = k
    · have : getL L k = some p.2 := getL_of_mem h.nodup (by rw [← hpk]; exact hp)
      rw [hg] at this
      cases this
      simp [hpk, ptrN, hn]
    · simp [hpk]
  have hfree : ∀ y ∈ L, y.1 ≠ k → ∀ q, nD y.2 q → ¬ nD d q := fun y hy hyk => by
    obtain ⟨h1, h2, h3⟩ := h.sep _ hmem y hy (fun e => hyk e.symm)
    exact NoteAt.dis hd (h.note y hy) h1 h2 h3
  refine ⟨⟨hk.heap h.cells (hd.free h.cells note_acks bad_acks), ?_, ?_, ?_, ?_⟩, hk.mono fun q _ hq => .inr ⟨_, hmem, hq⟩, ?_⟩
  · rw [hml]
    refine h.keys.keep hk ?_
    rintro (e | e | e)
    · exact map_cells' h.keys hd.cell e.symm
    · exact h.tne _ hmem e.symm
    · obtain ⟨_, _, cur, hcur⟩ := hd.bad.lt _ e
      exact map_cells' h.keys hcur rfl
  · intro x hx
    rcases mem_putL hx with rfl | ⟨hx, hxk⟩
    · exact hN
    · exact (h.note x hx).keep hk (hfree x hx hxk)
  · intro x hx y hy hxy
    rcases mem_putL hx with rfl | ⟨hx, hxk⟩ <;> rcases mem_putL hy with rfl | ⟨hy, hyk⟩
    · exact absurd rfl hxy
    · obtain ⟨h1, h2, h3⟩ := h.sep _ hmem y hy (fun e => hyk e.symm)
      dsimp only
      refine ⟨by rw [hn]; exact h1, by rw [ht]; exact h2, fun q hq hq' => ?_⟩
      rcases hv q hq with h4 | h4
      · exact h3 q h4 hq'
      · have := (h.note y hy).lt (.inr (.inr hq'))
        omega
    · obtain ⟨h1, h2, h3⟩ := h.sep x hx _ hmem hxk
      dsimp only
      refine ⟨by rw [hn]; exact h1, by rw [ht]; exact h2, fun q hq hq' => ?_⟩
      rcases hv q hq' with h4 | h4
      · exact h3 q hq h4
      · have := (h.note x hx).lt (.inr (.inr hq))
        omega
    · exact h.sep x hx y hy hxy
  · intro x hx
    rcases mem_putL hx with rfl | ⟨hx, hxk⟩
    · dsimp only
      rw [ht]
      exact h.tne _ hmem
    · exact h.tne x hx
  · intro x hx q hq
    rcases mem_putL hx with rfl | ⟨hx, hxk⟩
    · rcases hq with hq | hq | hq
      · exact .inl ⟨_, hmem, .inl (by rw [hq, hn])⟩
      · exact .inl ⟨_, hmem, .inr (.inl (by rw [hq, ht]))⟩
      · rcases hv q hq with h4 | h4
        · exact .inl ⟨_, hmem, .inr (.inr h4)⟩
        · exact .inr h4
    · exact .inl ⟨x, hx, hq⟩
set_option maxRecDepth 100000 in
theorem new_ca (w : World) : Ca Tryz.prog 5 #[] w fun v w' => ∃ ab mb, v = .pointer (some ⟨ab, 0, none⟩) ∧ AcksAt w' w.heap.size ab mb [] ∧ Keeps NoB w w' ∧ w.heap.size ≤ mb ∧ w.heap.size ≤ ab := by
  refine ca_of_body (args := []) Tryz.func5 rfl (by kernel_rfl) ?_
  (repeat first | (apply wr_assign; exact rfl; with_reducible (conv => enter [6, 3]; whnf)) | apply wr_end | apply wc_seq | apply wc_region)
  refine wr_makeMap rfl ?_
  refine wr_name ?_
  intro w1 hw1
  obtain ⟨mb, hmb⟩ : ∃ b, b = w.heap.size := ⟨_, rfl⟩
  have hk1 : Keeps NoB w w1 := by rw [hw1]; exact (Keeps.refl NoB w).alloc _
  have hM1 : MapAt w1 encK mb ([] : List (KY × Value)) := by rw [hw1, hmb]; exact MapAt.new w encK
  rw [← hmb]
  clear hw1
  refine wr_build (ps := [(0, .map (some mb))]) (cs := [.map (some mb)]) rfl rfl rfl rfl ?_
  refine wr_box (v := .agg #[.map (some mb)]) rfl rfl ?_
  refine wr_name ?_
  intro w2 hw2
  obtain ⟨ab, hab⟩ : ∃ b, b = w1.heap.size := ⟨_, rfl⟩
  have hk2 : Keeps NoB w1 w2 := by rw [hw2]; exact (Keeps.refl NoB w1).alloc _
  have hc2 : w2.heap[ab]? = some (.cells #[.map (some mb)] 56 (0, 0)) := by rw [hw2, hab]; exact heap_alloc_same _ _
  rw [← hab]
  clear hw2
  have hs1 := hk1.size
  (repeat first | (apply wr_assign; exact rfl; with_reducible (conv => enter [6, 3]; whnf)) | apply wr_end | (apply wc_ret; try simp only [thenE, inBlockE, bodyQ]))
  exact leave1 (v := .pointer (some ⟨ab, 0, none⟩)) rfl rfl ⟨ab, mb, rfl, ⟨hc2, hM1.keep hk2 (fun h => h), (fun x hx => by cases hx), (fun x hx => by cases hx), (fun x hx => by cases hx)⟩, hk1.trans hk2, by omega, by omega⟩
set_option maxRecDepth 100000 in
set_option maxHeartbeats 2000000 in
theorem of_ca {base ab mb : Nat} {L : List (KY × ND)} {w : World} (h : AcksAt w base ab mb L) (hbase : base ≤ w.heap.size) (k : KY) :
    Ca Tryz.prog 22 #[.pointer (some ⟨ab, 0, none⟩), encK k] w fun v w' => ∃ L' d, v = ptrN d ∧ getL L' k = some d ∧ AcksAt w' base ab mb L' ∧ Keeps (aD mb L) w w' ∧ Sub w L L' ∧
      ((L' = L ∧ getL L k = some d) ∨ (getL L k = none ∧ L' = putL L k d ∧ d.p = PN.new)) := by
  refine ca_of_body (args := [.pointer (some ⟨ab, 0, none⟩), encK k]) Tryz.func22 rfl (by kernel_rfl) ?_
  apply wc_seq
  apply wc_region
  refine wr_box (v := .agg #[.int .i64 k.1, S k.2]) rfl rfl ?_
  refine wr_name ?_
  intro w1 hw1
  obtain ⟨b1, hb1⟩ : ∃ b1, b1 = w.heap.size := ⟨_, rfl⟩
  have hk1 : Keeps NoB w w1 := by rw [hw1]; exact (Keeps.refl NoB w).alloc _
  have hc1 : w1.heap[b1]? = some (.cells #[.int .i64 k.1, S k.2] 36 (0, 0)) := by rw [hw1, hb1]; exact heap_alloc_same _ _
  rw [← hb1]
  clear hw1
  have h1 := (h.keep hk1).drew'
  have hs1 := h1.cells
  have hc1d : w1.drew.heap[b1]? = _ := hc1
  (repeat first | (apply wr_assign; exact rfl; with_reducible (conv => enter [6, 3]; whnf)) | apply wr_end | apply wc_seq)
  refine wc_drawS (l := _) (S := fun w' => w' = w1.drew) (by kernel_rfl) (by kernel_rfl) rfl ?_
  repeat
    apply ch_step
    focus
      intro w' hS
      subst hS
      (repeat first | (apply wr_move; exact rfl; with_reducible (conv => enter [6, 3]; whnf)) | (apply wr_fieldAddr; iterate 2 exact rfl) | (apply wr_nilCheck; iterate 2 exact rfl) | (apply wr_load; (iterate 3 exact rfl); (focus repeat first | with_reducible assumption | exact heap_alloc_same _ _ | exact World.putObj_heap_same (by first | omega | (simp only [World.size_alloc, World.putObj_size, ne_eq]; omega)) | ((first | refine hAl ?_ ?_ | refine hPu ?_ ?_); focus first | omega | (simp only [World.size_alloc, World.putObj_size, ne_eq]; omega))); exact rfl; conv => enter [6, 3]; whnf) | (apply wr_nil; try simp only [thenE, inBlockE, bodyQ]))
      exact ⟨rfl, by trivial⟩
  apply ch_step
  focus
    intro w' hS
    subst hS
    refine wr_loadAll (cs := [.int .i64 k.1, S k.2]) rfl rfl rfl hc1d rfl ?_
    apply wr_nil
    exact ⟨rfl, rfl⟩
  apply ch_step
  focus
    intro w' hS
    subst hS
    refine wr_lookupOk (l := mapL ptrN L) (a := k) rfl rfl h1.keys rfl ?_
    apply wr_nil
    exact ⟨rfl, rfl⟩
  rw [getL_map, Option.isSome_map]
  cases hg : getL L k with
  | some d =>
    repeat
      apply ch_step
      focus
        intro w' hS
        subst hS
        (repeat first | (apply wr_move; exact rfl; with_reducible (conv => enter [6, 3]; whnf)) | (apply wr_assign; exact rfl; with_reducible (conv => enter [6, 3]; whnf)) | (apply wr_extract; (iterate 3 exact rfl); with_reducible (conv => enter [6, 3]; whnf)) | (apply wr_nil; try simp only [thenE, inBlockE, bodyQ]))
        exact ⟨rfl, by trivial⟩
    refine ch_nil ?_
    intro w' hS
    subst hS
    (repeat first | (apply wr_move; exact rfl; with_reducible (conv => enter [6, 3]; whnf)) | (apply wr_assign; exact rfl; with_reducible (conv => enter [6, 3]; whnf)) | apply wr_end | apply wc_seq | apply wc_region | apply wc_skip | (apply wr_not; iterate 2 exact rfl) | (apply wc_false; exact rfl) | (apply wc_ret; try simp only [thenE, inBlockE, bodyQ]))
    exact leave1 (v := ptrN d) rfl rfl ⟨L, d, rfl, hg, h1, hk1.drew.upD, Sub.refl _ _, .inl ⟨rfl, by trivial⟩⟩
  | none =>
    repeat
      apply ch_step
      focus
        intro w' hS
        subst hS
        (repeat first | (apply wr_move; exact rfl; with_reducible (conv => enter [6, 3]; whnf)) | (apply wr_assign; exact rfl; with_reducible (conv => enter [6, 3]; whnf)) | (apply wr_extract; (iterate 3 exact rfl); with_reducible (conv => enter [6, 3]; whnf)) | (apply wr_nil; try simp only [thenE, inBlockE, bodyQ]))
        exact ⟨rfl, by trivial⟩
    refine ch_nil ?_
    intro w' hS
    subst hS
    obtain ⟨w2, hw2⟩ : ∃ w2, w2 = w1.drew := ⟨_, rfl⟩
    have hk2 : Keeps NoB w w2 := by rw [hw2]; exact hk1.drew
    rw [← hw2] at hc1d h1 hs1 ⊢
    clear hw2
    (repeat first | (apply wr_move; exact rfl; with_reducible (conv => enter [6, 3]; whnf)) | apply wr_end | apply wc_seq | apply wc_region | (apply wr_not; iterate 2 exact rfl) | (apply wc_true; exact rfl))
    refine wr_makeMap rfl ?_
    refine wr_name ?_
    intro w3 hw3
    obtain ⟨tb, htb⟩ : ∃ b, b = w2.heap.size := ⟨_, rfl⟩
    have hk3 : Keeps NoB w2 w3 := by rw [hw3]; exact (Keeps.refl NoB w2).alloc _
    have hM3 : MapAt w3 (encI .i64) tb ([] : List (Int × Value)) := by rw [hw3, htb]; exact MapAt.new w2 (encI .i64)
    rw [← htb]
    clear hw3
    refine wr_build (ps := [(0, .map (some tb))]) (cs := [.map (some tb), .int .u64 0, .slice none 0 0]) rfl rfl rfl rfl ?_
    refine wr_box (v := .agg #[.map (some tb), .int .u64 0, .slice none 0 0]) rfl rfl ?_
    refine wr_name ?_
    intro w4 hw4
    obtain ⟨nb, hnb⟩ : ∃ b, b = w3.heap.size := ⟨_, rfl⟩
    have hk4 : Keeps NoB w3 w4 := by rw [hw4]; exact (Keeps.refl NoB w3).alloc _
    have hc4 : w4.heap[nb]? = some (.cells #[.map (some tb), .int .u64 0, .slice none 0 0] NoteT (0, 0)) := by rw [hw4, hnb]; exact heap_alloc_same _ _
    rw [← hnb]
    clear hw4
    have hk34 := hk3.trans hk4
    have h4 := h1.keep hk34
    have hs4 := h4.cells
    have hck4 := hk34.heap hc1d (fun h => h)
    have hN4 : NoteAt w4 base ⟨nb, tb, .slice none 0 0, PN.new⟩ := ⟨hc4, ⟨[], hM3.keep hk4 (fun h => h), fun id => rfl⟩, OwnS.nil _ _ _ _, List.Pairwise.nil, Nat.zero_le _⟩
    have hs23 := hk2.size
    have hs33 := hk3.size
    have hk0 : ∀ {w'}, Keeps NoB w4.drew w' → Keeps NoB w4 w' := fun hk => (Keeps.refl NoB w4).drew.trans hk
    (repeat first | (apply wr_assign; exact rfl; with_reducible (conv => enter [6, 3]; whnf)) | apply wr_end)
    refine wc_drawP (l := _) 6 _ (by kernel_rfl) (by kernel_rfl) rfl (by kernel_rfl) (by kernel_rfl) (by decide) ?_
    apply chP_pure
    focus
      intro xx w' hk hF
      apply wr_move; exact rfl; with_reducible (conv => enter [6, 3]; whnf)
      apply wr_nil
      exact ⟨rfl, Keeps.refl _ _⟩
    focus (intro xx yy h; rfl)
    focus kernel_rfl
    apply chP_pure
    focus
      intro xx w' hk hF
      refine wr_nilCheck rfl rfl ?_
      apply wr_nil
      exact ⟨rfl, Keeps.refl _ _⟩
    focus (intro xx yy h; rfl)
    focus kernel_rfl
    apply chP_pure
    focus
      intro xx w' hk hF
      refine wr_fieldAddr rfl rfl ?_
      apply wr_nil
      exact ⟨rfl, Keeps.refl _ _⟩
    focus (intro xx yy h; rfl)
    focus kernel_rfl
    apply chP_pure
    focus
      intro xx w' hk hF
      refine wr_load (v := .map (some mb)) rfl rfl rfl ((hk0 hk).heap hs4 (fun h => h)) rfl ?_
      apply wr_nil
      exact ⟨rfl, Keeps.refl _ _⟩
    focus (intro xx yy h; rfl)
    focus kernel_rfl
    apply chP_pure
    focus
      intro xx w' hk hF
      refine wr_loadAll (cs := [.int .i64 k.1, S k.2]) rfl rfl rfl ((hk0 hk).heap hck4 (fun h => h)) rfl ?_
      apply wr_nil
      exact ⟨rfl, Keeps.refl _ _⟩
    focus (intro xx yy h; rfl)
    focus kernel_rfl
    apply chP_pure
    focus
      intro xx w' hk hF
      apply wr_move; exact rfl; with_reducible (conv => enter [6, 3]; whnf)
      apply wr_nil
      exact ⟨rfl, Keeps.refl _ _⟩
    focus (intro xx yy h; rfl)
    focus kernel_rfl
    refine chP_nil ?_
    intro xx w5 hk5' hF
    have hk5 := hk0 hk5'
    have h5 := h4.keep hk5
    refine wr_update (l := mapL ptrN L) (a := k) (v := .pointer (some ⟨nb, 0, none⟩)) rfl rfl h5.keys rfl rfl ?_
    intro w6 hM6 hk6
    have hnk : k ∉ L.map (·.1) := fun hm => by
      have := getL_some hm
      rw [hg] at this
      cases this
    have hlt : ∀ x ∈ L, ∀ q, nD x.2 q → q < w2.heap.size := fun x hx q hq => (h1.note x hx).lt hq
    have hml := h1.keys.lt
    have hkw6 : Keeps (aD mb L) w w6 := ((hk2.trans hk34).trans hk5).upD.trans (hk6.mono fun q _ e => .inl e)
    (repeat first | (apply wr_move; exact rfl; with_reducible (conv => enter [6, 3]; whnf)) | (apply wr_assign; exact rfl; with_reducible (conv => enter [6, 3]; whnf)) | apply wr_end | apply wc_seq | apply wc_region | (apply wc_ret; try simp only [thenE, inBlockE, bodyQ]))
    refine leave1 (v := .pointer (some ⟨nb, 0, none⟩)) rfl rfl ⟨putL L k ⟨nb, tb, .slice none 0 0, PN.new⟩, ⟨nb, tb, .slice none 0 0, PN.new⟩, rfl, by rw [getL_put, if_pos rfl], ⟨hk6.heap h5.cells (map_cells' h5.keys h5.cells), ?_, fun x hx => ?_, fun x hx y hy hxy => ?_, fun x hx => ?_⟩, hkw6, fun x hx q hq => ?_, .inr ⟨by trivial, rfl, rfl⟩⟩
    · rw [putL_map]; exact hM6
    · rcases mem_putL hx with rfl | ⟨hx, _⟩
      · exact (hN4.keep hk5 (fun _ _ h => h)).keep hk6 (fun q hq e => by rcases hq with hq | hq | hq <;> first | (dsimp only at hq; omega) | cases hq)
      · exact (h5.note x hx).keep hk6 (fun q hq e => by
          subst e
          obtain ⟨es, n, hb, _⟩ := h5.keys
          rcases hq with hq | hq | hq
          · have := (h5.note x hx).cell
            rw [← hq, hb] at this
            cases this
          · exact h5.tne x hx hq.symm
          · obtain ⟨_, _, cur, hcur⟩ := (h5.note x hx).bad.lt _ hq
            rw [hb] at hcur
            cases hcur)
    · rcases mem_putL hx with rfl | ⟨hx, hxk⟩ <;> rcases mem_putL hy with rfl | ⟨hy, hyk⟩
      · exact absurd rfl hxy
      · have e1 := hlt y hy _ (.inl rfl)
        have e2 := hlt y hy _ (.inr (.inl rfl))
        dsimp only
        exact ⟨by omega, by omega, fun q hq => by cases hq⟩
      · have e1 := hlt x hx _ (.inl rfl)
        have e2 := hlt x hx _ (.inr (.inl rfl))
        dsimp only
        exact ⟨by omega, by omega, fun q hq hq' => by cases hq'⟩
      · exact h.sep x hx y hy hxy
    · rcases mem_putL hx with rfl | ⟨hx, _⟩
      · dsimp only; omega
      · exact h.tne x hx
    · rcases mem_putL hx with rfl | ⟨hx, _⟩
      · rcases hq with hq | hq | hq
        · dsimp only at hq; exact .inr (by omega)
        · dsimp only at hq; exact .inr (by omega)
        · cases hq
      · exact .inl ⟨x, hx, hq⟩
end Go.Proofs.YtjaojihogmnjhaaGreatDoor
