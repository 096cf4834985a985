/- noriaref14: Drop. -/
import Derived.Test.YtajajahofkialaaGreatDoorIb2
import Derived.Test.YtajajahofkialaaGreatDoorHu
namespace Go.Proofs.YtajajahofkialaaGreatDoor
open Go Go.V Go.RowKit
set_option linter.unusedVariables false
set_option linter.unusedSimpArgs false

/- The head: $1 after New. -/
/- A set of a few: $1 slice, $2 bytes, $3 world, $4 stem, $5 SlR, $6 bytes small, $7 how many. -/
theorem wr_buildA {P : Program} {ops : Array Oper} {Q : Post} {ds : List Deferred} {f : Env} {w : World} {rest : List Oper} {d : Option Nat} {ty : TypeId} {pos : String} {af : Array Edge} {g : Option (Nat × Bool)} {t e : TypeId} {z ze : Value} {n by' se be len : Nat} {cs : List Value} [I : Info P t z n by'] [U : Und P t (.array len e)] [E : Info P e ze se be] (hw : wantedE ops f ⟨d, .build t #[], ty, pos, af, g⟩ = true) (hc : z.cells.toList = cs)
    (kk : Wr P ops Q ds rest (setO f d (.agg cs.toArray)) w) : Wr P ops Q ds (⟨d, .build t #[], ty, pos, af, g⟩ :: rest) f w := by
  refine wr_val (v := .agg cs.toArray) hw ?_ kk
  subst hc
  simp only [execOp, Instr.build, Sem.run_bind, run_zero I, Result.andThen_ok, run_und U, run_sizeOf' E, Sem.run_pure, Instr.fill]
  simp [Instr.fill, Sem.run]
theorem flat_take : ∀ (L : List SE) (m : Nat), (L.flatMap GSt).take (m * 2) = (L.take m).flatMap GSt
  | L, 0 => by simp
  | [], m + 1 => by simp
  | a :: L, m + 1 => by
    rw [List.flatMap_cons, List.take_succ_cons, List.flatMap_cons, ← flat_take L m, show (m + 1) * 2 = m * 2 + 2 by omega]
    rfl
theorem flat_len2 (L : List SE) : (L.flatMap GSt).length = L.length * 2 := by
  induction L with
  | nil => rfl
  | cons a L ih => rw [List.flatMap_cons, List.length_append, ih]; simp [GSt]; omega
theorem arr_ne2 {w : World} {L : List SE} (h : ∀ x ∈ L, SlR w 1 x.2 x.1.2.length (SL x.1.2)) : ∀ (j : Nat) (t : TT), ((L.flatMap GSt).toArray)[j]? ≠ some (S t) := by
  intro j t e
  rw [List.getElem?_toArray] at e
  obtain ⟨x, hx, hm⟩ := List.mem_flatMap.1 (List.mem_of_getElem? e)
  simp only [GSt, List.mem_cons, List.not_mem_nil, or_false] at hm
  rcases hm with hm | hm
  · cases hm
  · exact (SE_R (h x hx)).one.2 t hm.symm
def zeroL : List SE := List.replicate 6 (noneP, nilV)
def wipeL (L : List SE) (id : Nat) : List SE := L.take (id * 6) ++ zeroL ++ L.drop (id * 6 + 6)
theorem wipe_cells (L : List SE) (id : Nat) : (L.flatMap GSt).take (0 + id * 12) ++ zeroL.flatMap GSt ++ (L.flatMap GSt).drop (0 + id * 12 + 12) = (wipeL L id).flatMap GSt := by
  unfold wipeL
  rw [List.flatMap_append, List.flatMap_append, ← flat_take, ← flat_drop, show 0 + id * 12 = id * 6 * 2 by omega, show id * 6 * 2 + 12 = (id * 6 + 6) * 2 by omega]
theorem wipe_get {L : List SE} (hL : L.length = 198) {id : Nat} (hid : id < 33) (i k : Nat) (hi : i < 33) (hk : k < 6) : (wipeL L id)[i * 6 + k]? = if i = id then some (noneP, nilV) else L[i * 6 + k]? := by
  unfold wipeL
  have h1 : (L.take (id * 6)).length = id * 6 := by rw [List.length_take]; omega
  have h2 : zeroL.length = 6 := rfl
  rw [List.append_assoc]
  by_cases h : i < id
  · rw [if_neg (by omega), List.getElem?_append_left (by omega), List.getElem?_take_of_lt (by omega)]
  · rw [List.getElem?_append_right (by omega), h1]
    by_cases h3 : i = id
    · subst h3
      rw [if_pos rfl, List.getElem?_append_left (by omega), show i * 6 + k - i * 6 = k by omega]
      unfold zeroL
      rw [List.getElem?_replicate, if_pos hk]
    · rw [if_neg h3, List.getElem?_append_right (by omega), h2, List.getElem?_drop]
      congr 1
      omega
theorem RefAt_wipe {w w' : World} {xb id : Nat} {Wn : WF} {L : List SE} (hid : id < 33) (h1 : L.length = 198) (h2 : w.heap[xb]? = some (.cells (L.flatMap GSt).toArray 33 (0, 0))) (h3 : ∀ id k : Nat, id < 33 → k < 6 → ∃ v, L[id * 6 + k]? = some (Wn ((id : Int), (k : Int)), v)) (h4 : ∀ x ∈ L, SlR w 1 x.2 x.1.2.length (SL x.1.2))
    (k : Keeps (· = xb) w w') (hw : w'.heap[xb]? = some (.cells ((wipeL L id).flatMap GSt).toArray 33 (0, 0))) : RefAt w' xb (dropW Wn (id : Int)) := by
  refine ⟨wipeL L id, by unfold wipeL zeroL; simp; omega, hw, fun i j hi hj => ?_, fun y hy => ?_⟩
  · rw [wipe_get h1 hid i j hi hj]
    unfold dropW
    by_cases e : i = id
    · rw [if_pos e, if_pos (by dsimp only; omega)]; exact ⟨nilV, rfl⟩
    · rw [if_neg e, if_neg (by dsimp only; omega)]; exact h3 i j hi hj
  · unfold wipeL at hy
    rcases List.mem_append.1 hy with hy | hy
    · rcases List.mem_append.1 hy with hy | hy
      · exact ((SE_R (h4 y (List.mem_of_mem_take hy))).put k h2 (arr_ne2 h4)).row
      · rw [List.eq_of_mem_replicate hy]; exact slr_none _
    · exact ((SE_R (h4 y (List.mem_of_mem_drop hy))).put k h2 (arr_ne2 h4)).row
set_option maxRecDepth 100000 in
set_option maxHeartbeats 4000000 in
theorem refDrop_ca {w : World} {xb : Nat} {Wn : WF} (h : RefAt w xb Wn) (hd : ∀ t, ¬ inDom t → Wn t = noneP) (id : Int) :
    Ca Tryz.prog 12 #[.pointer (some ⟨xb, 0, none⟩), .int .i64 id] w fun v w' => (∃ e : Int, v = .int .i64 e ∧ ((e = 0 ∧ ∃ kk, Wn (id, kk) ≠ noneP) ∨ (e = 5 ∧ ∀ kk, Wn (id, kk) = noneP))) ∧ RefAt w' xb (dropW Wn id) ∧ Keeps (· = xb) w w' := by
  refine ca_of_body (args := [.pointer (some ⟨xb, 0, none⟩), .int .i64 id]) Tryz.func12 rfl (by kernel_rfl) ?_
  (repeat first | (apply wr_assign; exact rfl; with_reducible (conv => enter [6, 3]; whnf)) | apply wr_end | apply wc_seq | apply wc_region | apply wc_block)
  refine wc_loopL (α := Nat × Bool) (fun p => [(0, .pointer (some ⟨xb, 0, none⟩)), (1, .int .i64 id), (5, .bool p.2), (6, .int .i64 ((p.1 + 1 : Nat) : Int))])
    (fun p ds w' => ds = [] ∧ p.1 ≤ 5 ∧ (p.2 = true ↔ ∃ j : Nat, 1 ≤ j ∧ j ≤ p.1 ∧ Wn (id, (j : Int)) ≠ noneP) ∧ Keeps NoB w w') (fun p => 5 - p.1) (0, false)
    ⟨rfl, by decide, ⟨fun h => (by cases h), fun ⟨j, h1, h2, _⟩ => (by dsimp only at h2; omega)⟩, Keeps.refl _ _⟩ ⟨rfl, rfl, rfl, rfl, trivial⟩ ?_
  rintro ⟨i, b⟩ ds f0 w3 ⟨rfl, hi, hb, hk3⟩
  dsimp only at hi hb ⊢
  have h3' := h.keep hk3
  have hsame : (∀ kk, Wn (id, kk) = noneP) → dropW Wn id = Wn := fun hall => by
    funext t
    obtain ⟨a, c⟩ := t
    unfold dropW
    by_cases e : a = id
    · rw [if_pos e, e, hall]
    · rw [if_neg e]
  by_cases hin : 1 ≤ id ∧ id ≤ 32
  rotate_left
  · have hall : ∀ kk, Wn (id, kk) = noneP := fun kk => hd _ (fun h => hin ⟨h.1, h.2.1⟩)
    have hbf : b = false := by
      cases b
      · rfl
      · obtain ⟨j, _, _, hn⟩ := hb.1 rfl
        exact absurd (hall _) hn
    subst hbf
    have hex : (i < 5 ∧ ¬ id ≥ 1) ∨ (i < 5 ∧ id ≥ 1 ∧ ¬ id ≤ 32) ∨ ¬ i < 5 := by omega
    rcases hex with ⟨e0, e1⟩ | ⟨e0, e1, e2⟩ | e0
    all_goals
      (repeat first | (apply wr_move; exact rfl; with_reducible (conv => enter [6, 3]; whnf)) | (apply wr_assign; exact rfl; with_reducible (conv => enter [6, 3]; whnf)) | apply wr_end | apply wc_seq | apply wc_region | (apply wr_not; iterate 2 exact rfl) | (apply wr_cmp; (iterate 3 exact rfl); exact cmpT (by dsimp only [cmpP]; first | done | omega)) | (apply wr_cmp; (iterate 3 exact rfl); exact cmpF (by dsimp only [cmpN]; first | done | omega)) | (apply wr_pick (t := true); (iterate 2 exact rfl); with_reducible (conv => enter [6, 3]; whnf)) | (apply wr_pick (t := false); (iterate 2 exact rfl); with_reducible (conv => enter [6, 3]; whnf)) | (apply wc_true; exact rfl) | (apply wc_false; exact rfl) | (apply wc_exit; try simp only [thenE, inBlockE, bodyQ, ↓reduceIte, Nat.reduceEqDiff]) | (apply wc_ret; try simp only [thenE, inBlockE, bodyQ]) | (apply wr_skip; exact rfl))
      exact leave1 (v := .int .i64 5) rfl rfl ⟨⟨5, rfl, .inr ⟨rfl, hall⟩⟩, by rw [hsame hall]; exact h3', hk3.upD⟩
  obtain ⟨hin1, hin2⟩ := hin
  obtain ⟨n, rfl⟩ := Int.eq_ofNat_of_zero_le (show 0 ≤ id by omega)
  obtain ⟨L, h1, h2, h3, h4⟩ := h3'.at'
  by_cases hlt : i < 5
  · obtain ⟨v, hv⟩ := ref_sel h3 (id := n) (k := i + 1) (by omega) (by omega)
    have hrow := SE_R (h4 _ (List.mem_of_mem_drop (List.mem_of_getElem? hv)))
    dsimp only at hrow
    (repeat first | (apply wr_move; exact rfl; with_reducible (conv => enter [6, 3]; whnf)) | apply wr_end | apply wc_seq | apply wc_region | apply wc_skip | apply wc_block | (apply wr_fieldAddr; iterate 2 exact rfl) | (apply wr_nilCheck; iterate 2 exact rfl) | (apply wr_cmp; (iterate 3 exact rfl); exact cmpT (by dsimp only [cmpP]; first | done | omega)) | (apply wr_pick (t := true); (iterate 2 exact rfl); with_reducible (conv => enter [6, 3]; whnf)) | (apply wc_true; exact rfl))
    refine wr_indexArr (i := n) rfl rfl rfl (by omega) ?_
    refine wr_indexArr (i := i + 1) rfl rfl rfl (by omega) ?_
    refine wr_loadElem (G := GSt) (n := 6) (i := i + 1) (l := L.drop ((n) * 6)) (o := 0 + (n) * 12) rfl rfl GSt_len rfl h2 (ref_cells L (n)) (by omega) (hv) rfl ?_
    obtain ⟨cc, hcc⟩ : ∃ c, (!(Wn ((n : Int), ((i + 1 : Nat) : Int))).1 && decide ((Wn ((n : Int), ((i + 1 : Nat) : Int))).2.length = 0)) = c := ⟨_, rfl⟩
    refine wr_call (vs := [SetV (Wn ((n : Int), ((i + 1 : Nat) : Int))).1 v]) rfl (refEmpty_ca cc hcc hrow) rfl ?_
    rintro v w5 ⟨rfl, hk5⟩
    have hnx : (b || !cc) = true ↔ ∃ j : Nat, 1 ≤ j ∧ j ≤ i + 1 ∧ Wn ((n : Int), (j : Int)) ≠ noneP := by
      have hc2 : (!cc) = true ↔ Wn ((n : Int), ((i + 1 : Nat) : Int)) ≠ noneP := by
        rw [← hcc]
        have h9 := noneP_iff (Wn ((n : Int), ((i + 1 : Nat) : Int)))
        constructor
        · intro h e
          rw [h9.2 e] at h
          cases h
        · intro h
          cases h8 : (!(Wn ((n : Int), ((i + 1 : Nat) : Int))).1 && decide ((Wn ((n : Int), ((i + 1 : Nat) : Int))).2.length = 0))
          · rfl
          · exact absurd (h9.1 h8) h
      rw [Bool.or_eq_true, hb, hc2]
      constructor
      · rintro (⟨j, a1, a2, a3⟩ | h)
        · exact ⟨j, a1, by omega, a3⟩
        · exact ⟨i + 1, by omega, Nat.le_refl _, h⟩
      · rintro ⟨j, a1, a2, a3⟩
        by_cases e : j = i + 1
        · subst e; exact .inr a3
        · exact .inl ⟨j, a1, by omega, a3⟩
    have hk35 := hk3.trans hk5
    cases b
    · cases cc
      all_goals
        (repeat first | (apply wr_move; exact rfl; with_reducible (conv => enter [6, 3]; whnf)) | (apply wr_assign; exact rfl; with_reducible (conv => enter [6, 3]; whnf)) | apply wr_end | apply wc_region | (apply wr_not; iterate 2 exact rfl) | (apply wr_pick (t := false); (iterate 2 exact rfl); with_reducible (conv => enter [6, 3]; whnf)) | (apply wr_add; (iterate 3 exact rfl); exact w_fit (by dsimp only [kIn]; first | done | omega)) | (apply wr_nil; try simp only [thenE, inBlockE, bodyQ]))
        exact ⟨(i + 1, _), by dsimp only; omega, ⟨by trivial, by dsimp only; omega, hnx, hk35⟩, rfl, rfl, rfl, congrArg (Value.int .i64) (by dsimp only; omega), trivial⟩
    · (repeat first | (apply wr_move; exact rfl; with_reducible (conv => enter [6, 3]; whnf)) | (apply wr_assign; exact rfl; with_reducible (conv => enter [6, 3]; whnf)) | apply wr_end | apply wc_region | (apply wr_pick (t := true); (iterate 2 exact rfl); with_reducible (conv => enter [6, 3]; whnf)) | (apply wr_add; (iterate 3 exact rfl); exact w_fit (by dsimp only [kIn]; first | done | omega)) | (apply wr_nil; try simp only [thenE, inBlockE, bodyQ]) | (apply wr_skip; exact rfl))
      exact ⟨(i + 1, true), by dsimp only; omega, ⟨by trivial, by dsimp only; omega, hnx, hk35⟩, rfl, rfl, rfl, congrArg (Value.int .i64) (by dsimp only; omega), trivial⟩
  have hie : i = 5 := by omega
  subst hie
  cases b
  · have hall : ∀ kk, Wn ((n : Int), kk) = noneP := fun kk => by
      rcases Classical.em (Wn ((n : Int), kk) = noneP) with h | h
      · exact h
      · have hin : inDom ((n : Int), kk) := Classical.byContradiction fun hn => h (hd _ hn)
        obtain ⟨j, rfl⟩ := Int.eq_ofNat_of_zero_le (show 0 ≤ kk by have := hin.2.2.1; dsimp only at this; omega)
        have a1 := hin.2.2.1
        have a2 := hin.2.2.2
        dsimp only at a1 a2
        have := hb.2 ⟨j, by omega, by omega, h⟩
        cases this
    (repeat first | (apply wr_move; exact rfl; with_reducible (conv => enter [6, 3]; whnf)) | (apply wr_assign; exact rfl; with_reducible (conv => enter [6, 3]; whnf)) | apply wr_end | apply wc_seq | apply wc_region | (apply wr_not; iterate 2 exact rfl) | (apply wr_cmp; (iterate 3 exact rfl); exact cmpF (by dsimp only [cmpN]; first | done | omega)) | (apply wr_pick (t := false); (iterate 2 exact rfl); with_reducible (conv => enter [6, 3]; whnf)) | (apply wc_true; exact rfl) | (apply wc_false; exact rfl) | (apply wc_exit; try simp only [thenE, inBlockE, bodyQ, ↓reduceIte, Nat.reduceEqDiff]) | (apply wc_ret; try simp only [thenE, inBlockE, bodyQ]) | (apply wr_skip; exact rfl))
    exact leave1 (v := .int .i64 5) rfl rfl ⟨⟨5, rfl, .inr ⟨rfl, hall⟩⟩, by rw [hsame hall]; exact h3', hk3.upD⟩
  · obtain ⟨j, _, _, hne⟩ := hb.1 rfl
    (repeat first | (apply wr_move; exact rfl; with_reducible (conv => enter [6, 3]; whnf)) | apply wr_end | apply wc_seq | apply wc_region | apply wc_skip | (apply wr_not; iterate 2 exact rfl) | (apply wr_cmp; (iterate 3 exact rfl); exact cmpF (by dsimp only [cmpN]; first | done | omega)) | (apply wr_pick (t := false); (iterate 2 exact rfl); with_reducible (conv => enter [6, 3]; whnf)) | (apply wc_false; exact rfl) | (apply wc_exit; try simp only [thenE, inBlockE, bodyQ, ↓reduceIte, Nat.reduceEqDiff]) | (apply wr_skip; exact rfl))
    refine wr_buildA (cs := zeroL.flatMap GSt) rfl rfl ?_
    (repeat first | (apply wr_fieldAddr; iterate 2 exact rfl) | (apply wr_nilCheck; iterate 2 exact rfl))
    refine wr_indexArr (i := n) rfl rfl rfl (by omega) ?_
    refine wr_storePart (cs := zeroL.flatMap GSt) rfl rfl rfl (by decide) h2 rfl (by rw [List.size_toArray]; show 0 + n * 12 + 12 ≤ (L.flatMap GSt).length; rw [flat_len2, h1]; omega) ?_
    refine wr_name ?_
    intro w5 hw5
    have hk5 : Keeps (· = xb) w3 w5 := by rw [hw5]; exact (Keeps.refl _ _).put _ (fun _ => rfl)
    have hra : RefAt w5 xb (dropW Wn (n : Int)) := by
      refine RefAt_wipe (by omega) h1 h2 h3 h4 hk5 ?_
      rw [hw5, ← wipe_cells L n]
      exact World.putObj_heap_same (lt_of_heap h2)
    clear hw5
    (repeat first | (apply wr_assign; exact rfl; with_reducible (conv => enter [6, 3]; whnf)) | apply wr_end | apply wc_seq | apply wc_region | (apply wc_ret; try simp only [thenE, inBlockE, bodyQ]))
    exact leave1 (v := .int .i64 0) rfl rfl ⟨⟨0, rfl, .inl ⟨rfl, _, hne⟩⟩, hra, hk3.upD.trans hk5⟩
end Go.Proofs.YtajajahofkialaaGreatDoor
