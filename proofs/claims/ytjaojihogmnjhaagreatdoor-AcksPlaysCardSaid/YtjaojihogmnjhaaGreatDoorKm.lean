/- acks: Ready. -/
import Derived.Test.YtjaojihogmnjhaaGreatDoorKl
namespace Go.Proofs.YtjaojihogmnjhaaGreatDoor
open Go Go.V Go.RowKit
set_option linter.unusedVariables false
set_option linter.unusedSimpArgs false

def tl (x : BD) : BD := (x.1, x.2.1, true)
def markB (l : List BD) (i : Nat) : List BD := (l.take i).map tl ++ l.drop i
def outB (k : KY) (l : List BD) (i : Nat) : List SD := ((l.take i).filter fun b => !b.2.2).map fun b => (k, b.1, false, b.2.1)
theorem markB_len (l : List BD) (i : Nat) : (markB l i).length = l.length := by
  unfold markB; rw [List.length_append, List.length_map, List.length_take, List.length_drop]; omega
theorem markB_get {l : List BD} {i : Nat} {x : BD} (h : l[i]? = some x) : (markB l i)[i]? = some x := by
  have hi := (List.getElem?_eq_some_iff.1 h).1
  unfold markB
  rw [List.getElem?_append_right (by rw [List.length_map, List.length_take]; omega), List.length_map, List.length_take, Nat.min_eq_left (by omega), Nat.sub_self, List.getElem?_drop, Nat.add_zero]
  exact h
theorem markB_succ {l : List BD} {i : Nat} {x : BD} (h : l[i]? = some x) : markB l (i + 1) = (markB l i).set i (tl x) := by
  have hi := (List.getElem?_eq_some_iff.1 h).1
  have hd : l.drop i = x :: l.drop (i + 1) := by
    rw [List.drop_eq_getElem_cons hi]
    congr 1
    exact (List.getElem?_eq_some_iff.1 h).2
  have hlen : ((l.take i).map tl).length = i := by rw [List.length_map, List.length_take]; omega
  unfold markB
  rw [hd, List.set_append_right _ _ (by omega), hlen, Nat.sub_self, List.set_cons_zero, List.take_add_one, h]
  simp
theorem set_same {l : List BD} {i : Nat} {x : BD} (h : l[i]? = some (x.1, x.2.1, true)) : l.set i (tl x) = l := by
  apply List.ext_getElem?
  intro j
  by_cases hj : i = j
  · subst hj
    rw [List.getElem?_set_self (List.getElem?_eq_some_iff.1 h).1, h]; rfl
  · rw [List.getElem?_set_ne hj]
theorem markB_all (l : List BD) : markB l l.length = l.map tl := by unfold markB; simp
theorem outB_succ {k : KY} {l : List BD} {i : Nat} {x : BD} (h : l[i]? = some x) : outB k l (i + 1) = outB k l i ++ if x.2.2 = true then [] else [(k, x.1, false, x.2.1)] := by
  unfold outB
  rw [List.take_add_one, h]
  cases hx : x.2.2 <;> simp [List.filter_append, hx]
theorem ownS_mark {w : World} {base n g o c i : Nat} {l : List BD} {x : BD} {cur : Array Value} (h : OwnS w base BadT 3 (.slice (some ⟨g, o, none⟩) n c) n (l.flatMap GB)) (hl : l.length = n) (hg : w.heap[g]? = some (.cells cur BadT (0, 0))) (hx : l[i]? = some x) :
    OwnS (w.putObj g (.cells (cur.setIfInBounds (o + i * 3 + 2) (.bool true)) BadT (0, 0))) base BadT 3 (.slice (some ⟨g, o, none⟩) n c) n ((l.set i (tl x)).flatMap GB) ∧ cur[o + i * 3 + 2]? = some (.bool x.2.2) ∧ cur[o + i * 3]? = some (.int .u64 ((x.1 : Nat) : Int)) ∧ cur[o + i * 3 + 1]? = some (S x.2.1) := by
  have hi := (List.getElem?_eq_some_iff.1 hx).1
  obtain ⟨hxl, ⟨h0, _⟩ | ⟨g', o', cap, cur', he, hb, hgc, hn, hm, hs, ht⟩⟩ := h
  · cases h0
  cases he
  rw [hg] at hgc
  cases hgc
  have hrd : ∀ r v, (GB x)[r]? = some v → cur[o + i * 3 + r]? = some v := fun r v hv => by
    have hr : r < 3 := by have := (List.getElem?_eq_some_iff.1 hv).1; rwa [GB_len] at this
    have := ht (i * 3 + r) (by omega)
    rw [flat_get GB_len l i x r hx hr, hv] at this
    rw [Nat.add_assoc]; exact this
  refine ⟨⟨by rw [flat_len GB_len, List.length_set, hl], .inr ⟨g, o, c, _, rfl, hb, World.putObj_heap_same (lt_of_heap hg), hn, hm, by rw [Array.size_setIfInBounds]; exact hs, fun j hj => ?_⟩⟩, hrd 2 _ rfl, by have := hrd 0 _ rfl; simpa using this, hrd 1 _ rfl⟩
  have hj3 : j = j / 3 * 3 + j % 3 := by omega
  have hr3 : j % 3 < 3 := Nat.mod_lt _ (by decide)
  rw [Array.getElem?_setIfInBounds]
  by_cases hq : j / 3 = i
  · have hset : (l.set i (tl x))[i]? = some (tl x) := by rw [List.getElem?_set_self hi]
    have e1 : ((l.set i (tl x)).flatMap GB)[j]? = (GB (tl x))[j % 3]? := by
      conv => lhs; rw [hj3, hq]
      exact flat_get GB_len _ i _ _ hset hr3
    rw [e1]
    have e0 : j = i * 3 + j % 3 := by omega
    by_cases hr : j % 3 = 2
    · have hsz : o + i * 3 + 2 < cur.size := (Array.getElem?_eq_some_iff.1 (hrd 2 _ rfl)).1
      rw [if_pos (by omega), if_pos hsz, hr]; rfl
    · rw [if_neg (by omega), show o + j = o + i * 3 + j % 3 by omega]
      have h01 : j % 3 = 0 ∨ j % 3 = 1 := by omega
      rcases h01 with h0 | h0 <;> rw [h0]
      · exact hrd 0 _ rfl
      · exact hrd 1 _ rfl
  · rw [if_neg (by omega), ht j hj]
    have hql : j / 3 < l.length := by omega
    obtain ⟨y, hy⟩ : ∃ y, l[j / 3]? = some y := ⟨l[j / 3], by simp [hql]⟩
    have hset : (l.set i (tl x))[j / 3]? = some y := by rw [List.getElem?_set_ne (Ne.symm hq)]; exact hy
    conv => lhs; rw [hj3]
    conv => rhs; rw [hj3]
    rw [flat_get GB_len l _ y _ hy hr3, flat_get GB_len _ _ y _ hset hr3]
theorem mark_sort {l : List BD} (h : l.Pairwise fun a b => a.1 < b.1) : (l.map tl).Pairwise fun a b => a.1 < b.1 := by
  rw [List.pairwise_map]
  exact h
/-- What is to be told. -/
def readyO (k : KY) (p : PN) (least : Nat) : List SD := outB k p.bad p.bad.length ++ if p.told < least then [(k, least, true, [])] else []
def readyN (p : PN) (least : Nat) : PN := { p with bad := p.bad.map tl, told := if p.told < least then least else p.told }
def outsP (o : Option PN) (k : KY) (who : List Int) : List SD := match o with
  | some p => readyO k p (leastP (some p) who)
  | none => []
def afterP (L : List (KY × PN)) (k : KY) (who : List Int) : List (KY × PN) := match getL L k with
  | some p => putL L k (readyN p (leastP (some p) who))
  | none => L
theorem outB_le (k : KY) (l : List BD) (i : Nat) : (outB k l i).length ≤ i := by
  unfold outB
  rw [List.length_map]
  exact Nat.le_trans (List.length_filter_le _ _) (by rw [List.length_take]; omega)
theorem slR_keep0 {D : Nat → Prop} {w w' : World} {sz n : Nat} {v : Value} {cs : List Value} (h : SlR w sz v n cs) (k : Keeps D w w') (hd : 0 < n → ∀ b, v.ownBlock = some b → ¬ D b) : SlR w' sz v n cs := by
  by_cases hn : 0 < n
  · exact h.keep k (hd hn)
  · obtain ⟨hl, a, c, rfl, hc, h⟩ := h
    refine ⟨hl, a, c, rfl, hc, .inl ⟨by omega, fun e => ?_⟩⟩
    rcases h with h | ⟨b, o, cur, e', fr, e2, _⟩
    · exact h.2 e
    · rw [e] at e2; cases e2
abbrev StT : TypeId := 43
set_option maxRecDepth 100000 in
set_option maxHeartbeats 8000000 in
theorem ready0_ca {base ab mb : Nat} {L : List (KY × ND)} {w : World} (h : AcksAt w base ab mb L) (k : KY) (who : List Int) (v0 : Value) (hsl : SlR w 1 v0 who.length (who.map (Value.int .i64))) (hlen : who.length ≤ 9223372036854775807) (hwho : 0 < who.length → ∀ q, v0.ownBlock = some q → ¬ aD mb L q) :
    Ca Tryz.prog 7 #[.pointer (some ⟨ab, 0, none⟩), encK k, v0] w fun v w' => ∃ L', AcksAt w' base ab mb L' ∧ PL L' = afterP (PL L) k who ∧ w'.ownsRow w.heap.size StT 5 v (outsP (getL (PL L) k) k who).length ((outsP (getL (PL L) k) k who).flatMap GS) ∧ Keeps (aD mb L) w w' ∧ Sub w L L' := by
  refine ca_of_body (args := [.pointer (some ⟨ab, 0, none⟩), encK k, v0]) Tryz.func7 rfl (by kernel_rfl) ?_
  apply wc_seq
  apply wc_region
  refine wr_box (v := .agg #[.int .i64 k.1, S k.2]) rfl rfl ?_
  refine wr_name ?_
  intro w1 hw1
  obtain ⟨b1, hb1⟩ : ∃ b1, b1 = w.heap.size := ⟨_, rfl⟩
  have hk1 : Keeps NoB w w1 := by rw [hw1]; exact (Keeps.refl NoB w).alloc _
  have hc1 : w1.heap[b1]? = some (.cells #[.int .i64 k.1, S k.2] 36 (0, 0)) := by rw [hw1, hb1]; exact heap_alloc_same _ _
  rw [← hb1]
  clear hw1
  have h1 := (h.keep hk1).drew'
  have hs1 := h1.cells
  have hc1d : w1.drew.heap[b1]? = some (.cells #[.int .i64 k.1, S k.2] 36 (0, 0)) := hc1
  have hb1' := hb1
  (repeat first | (apply wr_assign; exact rfl; with_reducible (conv => enter [6, 3]; whnf)) | apply wr_end | apply wc_seq)
  refine wc_drawS (l := _) (S := fun w' => w' = w1.drew) (by kernel_rfl) (by kernel_rfl) rfl ?_
  repeat
    apply ch_step
    focus
      intro w' hS
      subst hS
      (repeat first | (apply wr_move; exact rfl; with_reducible (conv => enter [6, 3]; whnf)) | (apply wr_fieldAddr; iterate 2 exact rfl) | (apply wr_nilCheck; iterate 2 exact rfl) | (apply wr_load; (iterate 3 exact rfl); (focus repeat first | with_reducible assumption | exact heap_alloc_same _ _ | exact World.putObj_heap_same (by first | omega | (simp only [World.size_alloc, World.putObj_size, ne_eq]; omega)) | ((first | refine hAl ?_ ?_ | refine hPu ?_ ?_); focus first | omega | (simp only [World.size_alloc, World.putObj_size, ne_eq]; omega))); exact rfl; conv => enter [6, 3]; whnf) | (apply wr_nil; try simp only [thenE, inBlockE, bodyQ]))
      exact ⟨rfl, by trivial⟩
  apply ch_step
  focus
    intro w' hS
    subst hS
    refine wr_loadAll (cs := [.int .i64 k.1, S k.2]) rfl rfl rfl hc1d rfl ?_
    apply wr_nil
    exact ⟨rfl, rfl⟩
  apply ch_step
  focus
    intro w' hS
    subst hS
    refine wr_lookupOk (l := mapL ptrN L) (a := k) rfl rfl h1.keys rfl ?_
    apply wr_nil
    exact ⟨rfl, rfl⟩
  rw [getL_map, Option.isSome_map]
  have hgp := getPL L k
  unfold afterP
  cases hg : getL L k with
  | none =>
    rw [hg] at hgp
    rw [show getL (PL L) k = none from hgp]
    repeat
      apply ch_step
      focus
        intro w' hS
        subst hS
        (repeat first | (apply wr_move; exact rfl; with_reducible (conv => enter [6, 3]; whnf)) | (apply wr_assign; exact rfl; with_reducible (conv => enter [6, 3]; whnf)) | (apply wr_extract; (iterate 3 exact rfl); with_reducible (conv => enter [6, 3]; whnf)) | (apply wr_nil; try simp only [thenE, inBlockE, bodyQ]))
        exact ⟨rfl, by trivial⟩
    refine ch_nil ?_
    intro w' hS
    subst hS
    (repeat first | (apply wr_move; exact rfl; with_reducible (conv => enter [6, 3]; whnf)) | (apply wr_assign; exact rfl; with_reducible (conv => enter [6, 3]; whnf)) | apply wr_end | apply wc_seq | apply wc_region | (apply wr_not; iterate 2 exact rfl) | (apply wc_true; exact rfl) | (apply wc_ret; try simp only [thenE, inBlockE, bodyQ]))
    exact leave1 (v := .slice none 0 0) rfl rfl ⟨L, h1, rfl, ⟨rfl, .inl ⟨rfl, rfl⟩⟩, hk1.drew.upD, Sub.refl _ _⟩
  | some d =>
    rw [hg] at hgp
    rw [show getL (PL L) k = some d.p from hgp]
    repeat
      apply ch_step
      focus
        intro w' hS
        subst hS
        (repeat first | (apply wr_move; exact rfl; with_reducible (conv => enter [6, 3]; whnf)) | (apply wr_assign; exact rfl; with_reducible (conv => enter [6, 3]; whnf)) | (apply wr_extract; (iterate 3 exact rfl); with_reducible (conv => enter [6, 3]; whnf)) | (apply wr_nil; try simp only [thenE, inBlockE, bodyQ]))
        exact ⟨rfl, by trivial⟩
    refine ch_nil ?_
    intro w' hS
    subst hS
    obtain ⟨w2, hw2⟩ : ∃ w2, w2 = w1.drew := ⟨_, rfl⟩
    have hk2 : Keeps NoB w w2 := by rw [hw2]; exact hk1.drew
    rw [← hw2] at hc1d h1 hs1 ⊢
    clear hw2
    have hmem := getL_mem hg
    have hN2 := h1.note _ hmem
    have hfreeB1 := h1.free hc1d (by decide) (by decide)
    obtain ⟨nb, tb, dv, T, told, l⟩ := d
    have hn2 : w2.heap[nb]? = some (.cells #[.map (some tb), .int .u64 (told : Int), dv] NoteT (0, 0)) := hN2.cell
    have ho2 : OwnS w2 base BadT 3 dv l.length (l.flatMap GB) := hN2.bad
    have hfew : l.length ≤ 8 := hN2.few
    have hs2 := hk2.size
    have hnD : ∀ q, dv.ownBlock = some q → q ≠ nb ∧ q ≠ b1 ∧ q ≠ tb ∧ q < w2.heap.size := fun q hq => by
      obtain ⟨_, hqs, cur, hcur⟩ := ho2.lt q hq
      obtain ⟨M, hM, _⟩ := hN2.tk
      exact ⟨fun e => ty_ne hn2 hcur note_bad e.symm, fun e => ty_ne hc1d hcur (by decide) e.symm, fun e => map_cells' hM hcur e, hqs⟩
    obtain ⟨a, c, hdv⟩ : ∃ a c, dv = .slice a l.length c := by
      rcases ho2.2 with ⟨rfl, h0⟩ | ⟨g, o, cap, cur, rfl, _⟩
      · exact ⟨none, 0, by rw [h0]⟩
      · exact ⟨_, _, rfl⟩
    obtain ⟨rb, hrb⟩ : ∃ rb, rb = w2.heap.size := ⟨_, rfl⟩
    subst hdv
    (repeat first | (apply wr_move; exact rfl; with_reducible (conv => enter [6, 3]; whnf)) | (apply wr_assign; exact rfl; with_reducible (conv => enter [6, 3]; whnf)) | apply wr_end | apply wc_seq | apply wc_region | apply wc_skip | apply wc_block | (apply wr_fieldAddr; iterate 2 exact rfl) | (apply wr_not; iterate 2 exact rfl) | (apply wr_len_slice; iterate 2 exact rfl) | (apply wr_nilCheck; iterate 2 exact rfl) | (apply wr_load; (iterate 3 exact rfl); (focus repeat first | with_reducible assumption | exact heap_alloc_same _ _ | exact World.putObj_heap_same (by first | omega | (simp only [World.size_alloc, World.putObj_size, ne_eq]; omega)) | ((first | refine hAl ?_ ?_ | refine hPu ?_ ?_); focus first | omega | (simp only [World.size_alloc, World.putObj_size, ne_eq]; omega))); exact rfl; conv => enter [6, 3]; whnf) | (apply wc_false; exact rfl))
    refine wc_loopL (α := Nat × Value) (fun p => [(0, .pointer (some ⟨ab, 0, none⟩)), (2, v0), (4, .pointer (some ⟨b1, 0, none⟩)), (7, .pointer (some ⟨nb, 0, none⟩)), (9, p.2), (28, .int .i64 (l.length : Int)), (29, .int .i64 (p.1 : Int))])
      (fun p ds w' => ds = [] ∧ p.1 ≤ l.length ∧ OwnS w' base BadT 3 (.slice a l.length c) l.length ((markB l p.1).flatMap GB) ∧ w'.ownsRow rb StT 5 p.2 (outB k l p.1).length ((outB k l p.1).flatMap GS) ∧ Keeps (fun q => (Value.slice a l.length c).ownBlock = some q) w2 w') (fun p => l.length - p.1) (0, .slice none 0 0)
      ⟨rfl, Nat.zero_le _, ho2, ⟨rfl, .inl ⟨rfl, rfl⟩⟩, Keeps.refl _ _⟩ ⟨rfl, rfl, rfl, rfl, rfl, rfl, rfl, trivial⟩ ?_
    rintro ⟨i, ov⟩ ds f0 w3 ⟨rfl, hi, ho3, hr3, hk3⟩
    dsimp only at hi ho3 hr3 ⊢
    have hn3 := hk3.heap hn2 (fun e => (hnD _ e).1 rfl)
    have hc3 := hk3.heap hc1d (fun e => (hnD _ e).2.1 rfl)
    have hs3 := hk3.size
    by_cases hlt : i < l.length
    · obtain ⟨x, hx⟩ : ∃ x, l[i]? = some x := ⟨l[i], by simp [hlt]⟩
      have hmx := markB_get hx
      have hms := markB_succ hx
      have hos := outB_succ (k := k) hx
      have hole := outB_le k l i
      obtain ⟨g, o, cap, cur, he, hgb, hgc, hnc, hcm, hsz, hrd⟩ : ∃ g o cap cur, Value.slice a l.length c = .slice (some ⟨g, o, none⟩) l.length cap ∧ base ≤ g ∧ w3.heap[g]? = some (.cells cur BadT (0, 0)) ∧ l.length ≤ cap ∧ cap ≤ maxLen ∧ o + cap * 3 ≤ cur.size ∧ ∀ j, j < l.length * 3 → cur[o + j]? = ((markB l i).flatMap GB)[j]? := by
        rcases ho3.2 with ⟨_, h9⟩ | h9
        · omega
        · exact h9
      cases he
      obtain ⟨hoM, hrd2, hrd0, hrd1⟩ := ownS_mark ho3 (markB_len l i) hgc hmx
      rw [← hms] at hoM
      obtain ⟨q, dt, td⟩ := x
      dsimp only at hrd2 hrd0 hrd1 hos
      (repeat first | (apply wr_move; exact rfl; with_reducible (conv => enter [6, 3]; whnf)) | (apply wr_assign; exact rfl; with_reducible (conv => enter [6, 3]; whnf)) | apply wr_end | apply wc_seq | apply wc_region | apply wc_skip | apply wc_block | (apply wr_fieldAddr; iterate 2 exact rfl) | (apply wr_nilCheck; iterate 2 exact rfl) | (apply wr_load; (iterate 3 exact rfl); (focus repeat first | with_reducible assumption | exact heap_alloc_same _ _ | exact World.putObj_heap_same (by first | omega | (simp only [World.size_alloc, World.putObj_size, ne_eq]; omega)) | ((first | refine hAl ?_ ?_ | refine hPu ?_ ?_); focus first | omega | (simp only [World.size_alloc, World.putObj_size, ne_eq]; omega))); exact rfl; conv => enter [6, 3]; whnf) | (apply wr_cmp; (iterate 3 exact rfl); exact cmpT (by dsimp only [cmpP]; first | done | omega)) | (apply wc_true; exact rfl))
      refine wr_indexAddr (i := i) rfl rfl rfl hlt ?_
      (repeat first | (apply wr_move; exact rfl; with_reducible (conv => enter [6, 3]; whnf)) | (apply wr_assign; exact rfl; with_reducible (conv => enter [6, 3]; whnf)) | apply wr_end | apply wc_seq | apply wc_region | (apply wr_fieldAddr; iterate 2 exact rfl) | (apply wr_nilCheck; iterate 2 exact rfl))
      refine wr_load (v := .bool td) rfl rfl rfl hgc hrd2 ?_
      cases td with
      | true =>
        have hml : markB l (i + 1) = markB l i := by
          rw [hms]
          exact set_same (x := (q, dt, true)) hmx
        have hol : outB k l (i + 1) = outB k l i := by rw [hos]; simp
        (repeat first | (apply wr_move; exact rfl; with_reducible (conv => enter [6, 3]; whnf)) | apply wr_end | apply wc_region | apply wc_skip | (apply wr_not; iterate 2 exact rfl) | (apply wr_add; (iterate 3 exact rfl); exact w_fit (by dsimp only [kIn]; first | done | omega)) | (apply wc_false; exact rfl))
        refine ⟨(i + 1, ov), by dsimp only; omega, ⟨by trivial, by dsimp only; omega, by dsimp only; rw [hml]; exact ho3, by dsimp only; rw [hol]; exact hr3, hk3⟩, rfl, rfl, rfl, rfl, rfl, rfl, rfl, trivial⟩
      | false =>
        have hol : outB k l (i + 1) = outB k l i ++ [(k, q, false, dt)] := by rw [hos]; simp
        have hk0 : ∀ {w'}, Keeps NoB w3.drew w' → Keeps NoB w3 w' := fun hk => (Keeps.refl NoB w3).drew.trans hk
        (repeat first | apply wr_end | apply wc_seq | (apply wr_not; iterate 2 exact rfl) | (apply wc_true; exact rfl))
        refine wc_drawP (l := _) 12 _ (by kernel_rfl) (by kernel_rfl) rfl (by kernel_rfl) (by kernel_rfl) (by decide) ?_
        apply chP_pure
        focus
          intro xx w' hk hF
          apply wr_move; exact rfl; with_reducible (conv => enter [6, 3]; whnf)
          apply wr_nil
          exact ⟨rfl, Keeps.refl _ _⟩
        focus (intro xx yy h; rfl)
        focus kernel_rfl
        apply chP_pure
        focus
          intro xx w' hk hF
          refine wr_loadAll (cs := [.int .i64 k.1, S k.2]) rfl rfl rfl ((hk0 hk).heap hc3 (fun h => h)) rfl ?_
          apply wr_nil
          exact ⟨rfl, Keeps.refl _ _⟩
        focus (intro xx yy h; rfl)
        focus kernel_rfl
        apply chP_pure
        focus
          intro xx w' hk hF
          apply wr_move; exact rfl; with_reducible (conv => enter [6, 3]; whnf)
          apply wr_nil
          exact ⟨rfl, Keeps.refl _ _⟩
        focus (intro xx yy h; rfl)
        focus kernel_rfl
        apply chP_pure
        focus
          intro xx w' hk hF
          refine wr_nilCheck rfl rfl ?_
          apply wr_nil
          exact ⟨rfl, Keeps.refl _ _⟩
        focus (intro xx yy h; rfl)
        focus kernel_rfl
        apply chP_pure
        focus
          intro xx w' hk hF
          refine wr_fieldAddr rfl rfl ?_
          apply wr_nil
          exact ⟨rfl, Keeps.refl _ _⟩
        focus (intro xx yy h; rfl)
        focus kernel_rfl
        apply chP_pure
        focus
          intro xx w' hk hF
          refine wr_load (v := .int .u64 (q : Int)) rfl rfl rfl ((hk0 hk).heap hgc (fun h => h)) hrd0 ?_
          apply wr_nil
          exact ⟨rfl, Keeps.refl _ _⟩
        focus (intro xx yy h; rfl)
        focus kernel_rfl
        apply chP_pure
        focus
          intro xx w' hk hF
          apply wr_move; exact rfl; with_reducible (conv => enter [6, 3]; whnf)
          apply wr_nil
          exact ⟨rfl, Keeps.refl _ _⟩
        focus (intro xx yy h; rfl)
        focus kernel_rfl
        apply chP_pure
        focus
          intro xx w' hk hF
          refine wr_nilCheck rfl rfl ?_
          apply wr_nil
          exact ⟨rfl, Keeps.refl _ _⟩
        focus (intro xx yy h; rfl)
        focus kernel_rfl
        apply chP_pure
        focus
          intro xx w' hk hF
          refine wr_fieldAddr rfl rfl ?_
          apply wr_nil
          exact ⟨rfl, Keeps.refl _ _⟩
        focus (intro xx yy h; rfl)
        focus kernel_rfl
        apply chP_pure
        focus
          intro xx w' hk hF
          refine wr_load (v := S dt) rfl rfl rfl ((hk0 hk).heap hgc (fun h => h)) hrd1 ?_
          apply wr_nil
          exact ⟨rfl, Keeps.refl _ _⟩
        focus (intro xx yy h; rfl)
        focus kernel_rfl
        apply chP_pure
        focus
          intro xx w' hk hF
          refine wr_build (ps := [(0, .agg #[.int .i64 k.1, S k.2]), (1, .int .u64 (q : Int)), (3, S dt)]) (cs := GS (k, q, false, dt)) rfl rfl rfl rfl ?_
          apply wr_nil
          exact ⟨rfl, Keeps.refl _ _⟩
        focus (intro xx yy h; rfl)
        focus kernel_rfl
        refine chP_fact (fun y => .slice (some ⟨blkOf y, 0, none⟩) 1 1) (fun y w' => w'.heap[blkOf y]? = some (.cells (GS (k, q, false, dt)).toArray StT (0, 0))) (fun y w' w'' h k => k.heap h (fun h => h)) ?_ ?_
        focus
          intro xx w' hk hF
          refine wr_buildSlice (vs := [.agg (GS (k, q, false, dt)).toArray]) rfl rfl (by intro v hv; simp at hv; subst hv; rfl) rfl (by decide) (by decide) (by decide) ?_
          apply wr_nil
          exact ⟨.pointer (some ⟨w'.heap.size, 0, none⟩), rfl, (heap_alloc_same _ _).trans (by rfl), (Keeps.refl _ _).alloc _⟩
        refine chP_nil ?_
        intro xx w4 hk4' hF
        have hk4 := hk0 hk4'
        have hs4 := hk4.size
        have hb4 : w4.heap[blkOf (xx 11)]? = some (.cells (GS (k, q, false, dt)).toArray StT (0, 0)) := hF 11 (by decide)
        refine wr_append (v := ov) (n := (outB k l i).length) (m := 1) (news := GS (k, q, false, dt)) rfl rfl (own_keep hr3 hk4 (fun _ _ h => h)) rfl hb4 rfl (GS_one _) rfl (by decide) (by omega) (by omega) (by omega) ?_
        intro ov' w5 hr5 hk5 _
        have hro : ∀ q, ov.ownBlock = some q → rb ≤ q := fun q hq => (hr3.lt q hq).1
        have hg5 := hk5.heap (hk4.heap hgc (fun h => h)) (fun e => by
          have := hro _ e
          have := (hnD g rfl).2.2.2
          omega)
        (repeat first | (apply wr_move; exact rfl; with_reducible (conv => enter [6, 3]; whnf)) | (apply wr_assign; exact rfl; with_reducible (conv => enter [6, 3]; whnf)) | apply wr_end | apply wc_region | (apply wr_fieldAddr; iterate 2 exact rfl) | (apply wr_nilCheck; iterate 2 exact rfl))
        refine wr_store (v := .bool true) rfl rfl rfl rfl hg5 hrd2 ?_
        refine wr_name ?_
        intro w6 hw6
        have hk6 : Keeps (· = g) w5 w6 := by rw [hw6]; exact (Keeps.refl _ w5).put _ (fun _ => rfl)
        have hg6 : w6.heap[g]? = some (.cells (cur.setIfInBounds (o + i * 3 + 2) (.bool true)) BadT (0, 0)) := by rw [hw6]; exact World.putObj_heap_same (lt_of_heap hg5)
        clear hw6
        (repeat first | (apply wr_move; exact rfl; with_reducible (conv => enter [6, 3]; whnf)) | apply wr_end | apply wc_region | (apply wr_add; (iterate 3 exact rfl); exact w_fit (by dsimp only [kIn]; first | done | omega)) | (apply wr_nil; try simp only [thenE, inBlockE, bodyQ]))
        refine ⟨(i + 1, ov'), by dsimp only; omega, ⟨by trivial, by dsimp only; omega, ?_, ?_, ?_⟩, rfl, rfl, rfl, rfl, rfl, rfl, rfl, trivial⟩
        · refine ⟨hoM.1, ?_⟩
          rcases hoM.2 with ⟨h9, _⟩ | ⟨g', o', cap', cur', he', hb', hg', hr'⟩
          · cases h9
          · cases he'
            rw [World.putObj_heap_same (lt_of_heap hgc)] at hg'
            cases hg'
            exact .inr ⟨g, o, c, _, rfl, hb', hg6, hr'⟩
        · dsimp only
          rw [hol, List.length_append, List.flatMap_append]
          have := own_keep hr5 hk6 (fun q hq e => by
            subst e
            have h8 := (hr5.lt q hq).1
            have h9 := (hnD q rfl).2.2.2
            omega)
          simpa using this
        · refine (hk3.trans hk4.upD).trans' (hk5.mono (D' := fun q => rb ≤ q) fun q _ e => hro q e) (fun q hq e => by omega) |>.trans (hk6.mono fun q _ e => by rw [e]; rfl)
    have hie : i = l.length := by omega
    subst hie
    rw [markB_all] at ho3
    obtain ⟨M, hM, hT⟩ := hN2.tk
    have hM3 : MapAt w3 (encI .i64) tb M := hM.keep hk3 (fun e => (hnD _ e).2.2.1 rfl)
    have hN3 : NoteAt w3 base ⟨nb, tb, .slice a l.length c, { (⟨T, told, l⟩ : PN) with bad := l.map tl }⟩ := ⟨hn3, ⟨M, hM3, hT⟩, by dsimp only; rw [List.length_map]; exact ho3, mark_sort hN2.sort, by dsimp only; rw [List.length_map]; exact hfew⟩
    obtain ⟨h3, hkA3, hS3⟩ := h1.upd hg (d' := ⟨nb, tb, .slice a l.length c, { (⟨T, told, l⟩ : PN) with bad := l.map tl }⟩) rfl rfl (fun q hq => .inl hq) hN3 (hk3.mono fun q _ e => .inr (.inr e))
    have hg3 : getL (putL L k ⟨nb, tb, .slice a l.length c, { (⟨T, told, l⟩ : PN) with bad := l.map tl }⟩) k = some ⟨nb, tb, .slice a l.length c, { (⟨T, told, l⟩ : PN) with bad := l.map tl }⟩ := by rw [getL_put, if_pos rfl]
    have hlp : leastP ((getL (putL L k ⟨nb, tb, .slice a l.length c, { (⟨T, told, l⟩ : PN) with bad := l.map tl }⟩) k).map (·.p)) who = leastP (some ⟨T, told, l⟩) who := by
      rw [hg3]
      cases who <;> rfl
    have hsl3 := slR_keep0 (hsl.keep hk2 (fun _ _ h => h)) hk3 (fun hp q hq e => hwho hp q hq (.inr ⟨_, hmem, .inr (.inr e)⟩))
    have hkw3 : Keeps (aD mb L) w w3 := hk2.upD.trans hkA3
    have hro : ∀ q, ov.ownBlock = some q → rb ≤ q := fun q hq => (hr3.lt q hq).1
    (repeat first | (apply wr_move; exact rfl; with_reducible (conv => enter [6, 3]; whnf)) | apply wr_end | apply wc_seq | apply wc_region | (apply wr_cmp; (iterate 3 exact rfl); exact cmpF (by dsimp only [cmpN]; first | done | omega)) | (apply wc_false; exact rfl) | (apply wc_exit; try simp only [thenE, inBlockE, bodyQ, ↓reduceIte, Nat.reduceEqDiff]))
    refine wr_loadAll (cs := [.int .i64 k.1, S k.2]) rfl rfl rfl hc3 rfl ?_
    (repeat first | (apply wr_move; exact rfl; with_reducible (conv => enter [6, 3]; whnf)))
    refine wr_call (vs := [.pointer (some ⟨ab, 0, none⟩), encK k, v0]) rfl (least_ca h3 k who v0 hsl3 hlen) rfl ?_
    rintro v w4 ⟨rfl, hk4⟩
    rw [hlp]
    obtain ⟨ls, hls⟩ : ∃ ls, ls = leastP (some ⟨T, told, l⟩) who := ⟨_, rfl⟩
    rw [← hls]
    have hn4 := hk4.heap hn3 (fun h => h)
    have hc4 := hk4.heap hc3 (fun h => h)
    have h4 := h3.keep hk4
    have hr4 := own_keep hr3 hk4 (fun _ _ h => h)
    have hs4 := hk4.size
    have hole := outB_le k l l.length
    by_cases hlt2 : told < ls
    rotate_left
    · (repeat first | (apply wr_move; exact rfl; with_reducible (conv => enter [6, 3]; whnf)) | (apply wr_assign; exact rfl; with_reducible (conv => enter [6, 3]; whnf)) | apply wr_end | apply wc_seq | apply wc_region | apply wc_skip | (apply wr_fieldAddr; iterate 2 exact rfl) | (apply wr_nilCheck; iterate 2 exact rfl) | (apply wr_load; (iterate 3 exact rfl); (focus repeat first | with_reducible assumption | exact heap_alloc_same _ _ | exact World.putObj_heap_same (by first | omega | (simp only [World.size_alloc, World.putObj_size, ne_eq]; omega)) | ((first | refine hAl ?_ ?_ | refine hPu ?_ ?_); focus first | omega | (simp only [World.size_alloc, World.putObj_size, ne_eq]; omega))); exact rfl; conv => enter [6, 3]; whnf) | (apply wr_cmp; (iterate 3 exact rfl); exact cmpF (by dsimp only [cmpN]; first | done | omega)) | (apply wc_false; exact rfl) | (apply wc_ret; try simp only [thenE, inBlockE, bodyQ]))
      refine leave1 (v := ov) rfl rfl ⟨_, h4, ?_, ?_, hkw3.trans hk4.upD, hS3.down hs2⟩
      · rw [putPL]
        unfold readyN
        (try rw [← hls])
        dsimp only
        rw [if_neg hlt2]
      · unfold outsP readyO
        dsimp only
        (try rw [← hls])
        rw [if_neg hlt2, List.append_nil]
        exact own_down hr4 (by omega)
    (repeat first | (apply wr_move; exact rfl; with_reducible (conv => enter [6, 3]; whnf)) | (apply wr_assign; exact rfl; with_reducible (conv => enter [6, 3]; whnf)) | apply wr_end | apply wc_seq | apply wc_region | (apply wr_fieldAddr; iterate 2 exact rfl) | (apply wr_nilCheck; iterate 2 exact rfl) | (apply wr_load; (iterate 3 exact rfl); (focus repeat first | with_reducible assumption | exact heap_alloc_same _ _ | exact World.putObj_heap_same (by first | omega | (simp only [World.size_alloc, World.putObj_size, ne_eq]; omega)) | ((first | refine hAl ?_ ?_ | refine hPu ?_ ?_); focus first | omega | (simp only [World.size_alloc, World.putObj_size, ne_eq]; omega))); exact rfl; conv => enter [6, 3]; whnf) | (apply wr_cmp; (iterate 3 exact rfl); exact cmpT (by dsimp only [cmpP]; first | done | omega)) | (apply wr_store; (iterate 3 exact rfl); (first | exact rfl | with_reducible assumption); (focus repeat first | with_reducible assumption | exact heap_alloc_same _ _ | exact World.putObj_heap_same (by first | omega | (simp only [World.size_alloc, World.putObj_size, ne_eq]; omega)) | ((first | refine hAl ?_ ?_ | refine hPu ?_ ?_); focus first | omega | (simp only [World.size_alloc, World.putObj_size, ne_eq]; omega))); exact rfl) | (apply wc_true; exact rfl))
    refine wr_name ?_
    intro w5 hw5
    have hk5 : Keeps (· = nb) w4 w5 := by rw [hw5]; exact (Keeps.refl _ w4).put _ (fun _ => rfl)
    have hn5 : w5.heap[nb]? = some (.cells #[.map (some tb), .int .u64 (ls : Int), .slice a l.length c] NoteT (0, 0)) := by rw [hw5]; exact World.putObj_heap_same (lt_of_heap hn4)
    clear hw5
    have hN4 := hN3.keep hk4 (fun _ _ h => h)
    have hM5 : MapAt w5 (encI .i64) tb M := (hM3.keep hk4 (fun h => h)).keep hk5 (fun e => map_cells' (hM3.keep hk4 (fun h => h)) hn4 e.symm)
    have hbad5 := hN4.bad.keep hk5 (fun q hq e => by
      subst e
      exact (hnD _ hq).1 rfl)
    have hN5 : NoteAt w5 base ⟨nb, tb, .slice a l.length c, ⟨T, ls, l.map tl⟩⟩ := ⟨hn5, ⟨M, hM5, hT⟩, hbad5, hN4.sort, hN4.few⟩
    obtain ⟨h5, hkA5, hS5⟩ := h4.upd hg3 (d' := ⟨nb, tb, .slice a l.length c, ⟨T, ls, l.map tl⟩⟩) rfl rfl (fun q hq => .inl hq) hN5 (hk5.mono fun q _ e => .inl e)
    have hc5 := hk5.heap hc4 (fun e => ty_ne hc4 hn4 (by decide) e)
    have hr5 := own_keep hr4 hk5 (fun q hq e => by
      have h8 := hro q hq
      have h9 := lt_of_heap hn2
      omega)
    have hs5 := hk5.size
    skip
    refine wr_loadAll (cs := [.int .i64 k.1, S k.2]) rfl rfl rfl hc5 rfl ?_
    (repeat first | (apply wr_move; exact rfl; with_reducible (conv => enter [6, 3]; whnf)))
    refine wr_build (ps := [(0, .agg #[.int .i64 k.1, S k.2]), (1, .int .u64 (ls : Int)), (2, .bool true)]) (cs := GS (k, ls, true, [])) rfl rfl rfl rfl ?_
    refine wr_buildSlice (vs := [.agg (GS (k, ls, true, [])).toArray]) rfl rfl (by intro v hv; simp at hv; subst hv; rfl) rfl (by decide) (by decide) (by decide) ?_
    refine wr_append (v := ov) (n := (outB k l l.length).length) (m := 1) (news := GS (k, ls, true, [])) rfl rfl (hr5.alloc _) rfl (heap_alloc_same _ _) rfl (GS_one _) rfl (by decide) (by omega) (by omega) (by simp; omega) ?_
    intro ov' w6 hr6 hk6 _
    have hkal : Keeps NoB w5 (w5.alloc (.cells (List.flatMap (fun v => v.cells.toList) [Value.agg (GS (k, ls, true, [])).toArray]).toArray StT)) := (Keeps.refl NoB w5).alloc _
    have hlnb := lt_of_heap hn2
    have hltL : ∀ q, aD mb (putL (putL L k ⟨nb, tb, .slice a l.length c, { (⟨T, told, l⟩ : PN) with bad := l.map tl }⟩) k ⟨nb, tb, .slice a l.length c, ⟨T, ls, l.map tl⟩⟩) q → q < rb := fun q hq => by
      rcases hq with rfl | ⟨x, hx, hq⟩
      · rw [hrb]; exact h1.keys.lt
      · rcases mem_putL hx with rfl | ⟨hx, hxk⟩
        · rcases hq with hq | hq | hq
          · dsimp only at hq; omega
          · dsimp only at hq; rw [hq, hrb]; exact hM.lt
          · rw [hrb]; exact (hnD q hq).2.2.2
        · rcases mem_putL hx with rfl | ⟨hx, _⟩
          · exact absurd rfl hxk
          · rw [hrb]; exact (h1.note x hx).lt hq
    have h6 : AcksAt w6 base ab mb (putL (putL L k ⟨nb, tb, .slice a l.length c, { (⟨T, told, l⟩ : PN) with bad := l.map tl }⟩) k ⟨nb, tb, .slice a l.length c, ⟨T, ls, l.map tl⟩⟩) := by
      have h5a := h5.keep hkal
      have hab : ab < rb := by rw [hrb]; exact lt_of_heap hs1
      refine ⟨hk6.heap h5a.cells (fun e => by have := hro _ e; omega), h5a.keys.keep hk6 (fun e => by have := hro _ e; have := hltL mb (.inl rfl); omega), fun x hx => (h5a.note x hx).keep hk6 (fun q hq e => by have := hro _ e; have := hltL q (.inr ⟨x, hx, hq⟩); omega), h5a.sep, h5a.tne⟩
    (repeat first | (apply wr_move; exact rfl; with_reducible (conv => enter [6, 3]; whnf)) | (apply wr_assign; exact rfl; with_reducible (conv => enter [6, 3]; whnf)) | apply wr_end | apply wc_seq | apply wc_region | (apply wc_ret; try simp only [thenE, inBlockE, bodyQ]))
    refine leave1 (v := ov') rfl rfl ⟨_, h6, ?_, ?_, ?_, (hS3.trans (hS5.down hs4) hs3).down hs2⟩
    · rw [putPL, putPL, putL_put]
      unfold readyN
      (try rw [← hls])
      dsimp only
      rw [if_pos hlt2]
    · unfold outsP readyO
      dsimp only
      (try rw [← hls])
      rw [if_pos hlt2, List.length_append, List.flatMap_append]
      have h77 := own_down hr6 (base' := b1) (by omega)
      simpa [-List.flatMap_cons, List.flatMap_singleton] using h77
    · have hkA : Keeps (aD mb L) w w5 := (hkw3.trans hk4.upD).trans (hk5.mono fun q _ e => .inr ⟨_, hmem, .inl e⟩)
      exact (hkA.trans hkal.upD).trans' (hk6.mono (D' := fun q => rb ≤ q) fun q _ e => hro q e) (fun q hq e => by omega)
theorem ready_ca {base ab mb : Nat} {L : List (KY × ND)} {w : World} (h : AcksAt w base ab mb L) (k : KY) (who : List Int) (v0 : Value) (hsl : SlR w 1 v0 who.length (who.map (Value.int .i64))) (hlen : who.length ≤ 9223372036854775807) (hwho : ∀ q, v0.ownBlock = some q → ¬ aD mb L q) (hwlt : ∀ q, v0.ownBlock = some q → q < w.heap.size) :
    Ca Tryz.prog 7 #[.pointer (some ⟨ab, 0, none⟩), encK k, v0] w fun v w' => ∃ L', AcksAt w' base ab mb L' ∧ PL L' = afterP (PL L) k who ∧ w'.ownsRow w.heap.size StT 5 v (outsP (getL (PL L) k) k who).length ((outsP (getL (PL L) k) k who).flatMap GS) ∧ Keeps (aD mb L) w w' ∧ Sub w L L' :=
  ready0_ca h k who v0 hsl hlen (fun _ => hwho)
end Go.Proofs.YtjaojihogmnjhaaGreatDoor
