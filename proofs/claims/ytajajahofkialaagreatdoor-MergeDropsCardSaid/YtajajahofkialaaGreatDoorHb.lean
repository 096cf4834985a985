/- The merge in memory: what is counted; count. -/
import Derived.Test.YtajajahofkialaaGreatDoorHa
namespace Go.Proofs.YtajajahofkialaaGreatDoor
open Go Go.V Go.RowKit
set_option linter.unusedVariables false
set_option linter.unusedSimpArgs false

theorem getM_putM {α : Type} [DecidableEq α] (M : List (α × Value)) (c x : α) (v : Value) : getM (putM M c v) x = if x = c then some v else getM M x := by
  unfold putM
  by_cases hn : c ∈ M.map (·.1)
  · rw [if_pos hn]
    induction M with
    | nil => simp at hn
    | cons p M ih =>
      obtain ⟨q, u⟩ := p
      by_cases hk : q = c
      · subst hk
        by_cases hx : x = q
        · subst hx; simp [getM]
        · by_cases hm : q ∈ M.map (·.1)
          · have := ih hm
            simp only [getM] at this ⊢
            rw [List.map_cons, List.find?_cons, List.find?_cons]
            simp only [if_true]
            rw [decide_eq_false (Ne.symm hx)]
            simpa [hx] using this
          · have hmap : M.map (fun p => if p.1 = q then (q, v) else p) = M := by
              conv => rhs; rw [← List.map_id M]
              apply List.map_congr_left
              intro p hp
              rw [if_neg]; rfl
              intro e
              exact hm (List.mem_map.2 ⟨p, hp, e⟩)
            rw [List.map_cons, hmap]
            simp [getM, Ne.symm hx, hx]
      · have hm : c ∈ M.map (·.1) := by
          simp only [List.map_cons, List.mem_cons] at hn
          exact hn.resolve_left (Ne.symm hk)
        have := ih hm
        by_cases hx : x = q
        · subst hx; simp [getM, hk]
        · simp only [getM] at this ⊢
          rw [List.map_cons, List.find?_cons, List.find?_cons]
          simp only [hk, if_false]
          rw [decide_eq_false (Ne.symm hx)]
          exact this
  · rw [if_neg hn]
    simp only [getM, List.find?_append]
    by_cases hx : x = c
    · subst hx
      have : M.find? (fun p => decide (p.1 = x)) = none := by
        rw [List.find?_eq_none]
        intro p hp
        simp
        intro e
        exact hn (List.mem_map.2 ⟨p, hp, e⟩)
      rw [this]; simp
    · simp [hx, Ne.symm hx]
theorem getM_delM {α : Type} [DecidableEq α] (M : List (α × Value)) (c x : α) : getM (delM M c) x = if x = c then none else getM M x := by
  unfold delM getM
  induction M with
  | nil => simp
  | cons p M ih =>
    by_cases hp : p.1 = c
    · rw [List.filter_cons_of_neg (by simp [hp]), ih, List.find?_cons]
      by_cases hx : x = c
      · simp [hx]
      · have : ¬ p.1 = x := fun e => hx (by rw [← e, hp])
        simp [hx, this]
    · rw [List.filter_cons_of_pos (by simp [hp]), List.find?_cons, List.find?_cons]
      by_cases hpx : p.1 = x
      · have : ¬ x = c := fun e => hp (by rw [hpx, e])
        simp [hpx, this]
      · simp only [hpx, decide_false]
        exact ih
/-- Block b counts f: who is counted 0 times is not there. -/
def CntAt (w : World) (b : Nat) (f : TT → Int) : Prop := ∃ C : List (TT × Value), MapAt w Go.V.encS b C ∧ ∀ x, getM C x = if f x = 0 then none else some (.int .i64 (f x))
theorem CntAt.keep {D : Nat → Prop} {w w' : World} {b : Nat} {f : TT → Int} (h : CntAt w b f) (k : Keeps D w w') (hd : ¬ D b) : CntAt w' b f := by
  obtain ⟨C, h1, h2⟩ := h
  exact ⟨C, h1.keep k hd, h2⟩
theorem CntAt.get {w : World} {b : Nat} {f : TT → Int} {C : List (TT × Value)} (h2 : ∀ x, getM C x = if f x = 0 then none else some (.int .i64 (f x))) (x : TT) : (getM C x).getD (.int .i64 0) = .int .i64 (f x) := by
  rw [h2]
  split
  · rename_i h; rw [h]; rfl
  · rfl
/-- The cells of a merge. -/
def GMg (wb : Nat) (cb : List Nat) : List Value := .map (some wb) :: cb.map fun b => .map (some b)
theorem GMg_get {wb : Nat} {cb : List Nat} {k b : Nat} (h : cb[k]? = some b) : (GMg wb cb).toArray[1 + k]? = some (.map (some b)) := by
  rw [List.getElem?_toArray]
  unfold GMg
  rw [Nat.add_comm, List.getElem?_cons_succ, List.getElem?_map, h]
  rfl
theorem map_ne {α : Type} [DecidableEq α] {w : World} {enc : α → Value} {b : Nat} {M : List (α × Value)} {c : Array Value} {T : TypeId} {fr : Nat × Nat} {g : Nat} (h : MapAt w enc b M) (hg : w.heap[g]? = some (.cells c T fr)) : g ≠ b := by
  rintro rfl
  obtain ⟨es, n, hb, _⟩ := h
  rw [hg] at hb
  cases hb
def addC (f : TT → Int) (l : TX) (by' : Int) : TT → Int := fun x => f x + if x ∈ l then by' else 0
section
variable {P : Program} {ops : Array Oper} {Q : Post} {ds : List Deferred} {f : Env} {w w' : World} {rest : List Oper}
variable {d : Option Nat} {ty : TypeId} {pos : String} {af : Array Edge} {g : Option (Nat × Bool)}
theorem wr_indexArr {t e : TypeId} {z : Value} {size by' len : Nat} {x y : Operand} {b o : Nat} {k : IntKind} {i : Nat} [U : Und P t (.array len e)] [I : Info P e z size by'] (hw : wantedE ops f ⟨d, .indexAddr t x y, ty, pos, af, g⟩ = true) (hx : ev f x = .pointer (some ⟨b, o, none⟩)) (hy : ev f y = .int k (i : Int))
    (hi : i < len) (kk : Wr P ops Q ds rest (setO f d (.pointer (some ⟨b, o + i * size, none⟩))) w) : Wr P ops Q ds (⟨d, .indexAddr t x y, ty, pos, af, g⟩ :: rest) f w := by
  refine wr_v (s := Instr.indexAt t (ev f x) (ev f y)) (v := .pointer (some ⟨b, o + i * size, none⟩)) hw rfl ?_ kk
  rw [hx, hy]
  simp only [Instr.indexAt, asIntOf, Sem.run_bind, Sem.run_pure, Result.andThen_ok, run_und U, Instr.sureAddr]
  rw [if_pos ⟨by omega, by omega⟩]
  simp only [Sem.run_bind, run_sizeOf' I, Result.andThen_ok, Sem.run_pure, Int.toNat_natCast, addr_add]
end
set_option maxRecDepth 100000 in
set_option maxHeartbeats 4000000 in
theorem count_ca {w : World} {ab wb : Nat} {cb : List Nat} (hc : w.heap[ab]? = some (.cells (GMg wb cb).toArray 76 (0, 0))) {k b : Nat} (hk : k < 6) (hb : cb[k]? = some b) {f : TT → Int} (h : CntAt w b f) (by' : Int) (hby : by' = 1 ∨ by' = -1)
    {l : TX} {sl : Value} (hsl : SlR w 1 sl l.length (SL l)) (hnd : l.Nodup) (hlen : l.length ≤ 100000000000) (hf : ∀ x, -1000000 ≤ f x ∧ f x ≤ 1000000) :
    Ca Tryz.prog 62 #[.pointer (some ⟨ab, 0, none⟩), .int .i64 (k : Int), .int .i64 by', sl] w fun v w' => v = .tuple #[] ∧ CntAt w' b (addC f l by') ∧ Keeps (· = b) w w' := by
  obtain ⟨a, c, rfl, hcap, hat⟩ := slr_strs hsl
  refine ca_of_body (args := [.pointer (some ⟨ab, 0, none⟩), .int .i64 (k : Int), .int .i64 by', .slice a l.length c]) Tryz.func62 rfl (by kernel_rfl) ?_
  (repeat first | (apply wr_move; exact rfl; with_reducible (conv => enter [6, 3]; whnf)) | apply wr_end | apply wc_seq | apply wc_region | apply wc_block | (apply wr_len_slice; iterate 2 exact rfl))
  refine wc_loopL (α := Nat) (fun i => [(0, .pointer (some ⟨ab, 0, none⟩)), (1, .int .i64 (k : Int)), (2, .int .i64 by'), (10, .slice a l.length c), (11, .int .i64 (l.length : Int)), (12, .int .i64 (i : Int))])
    (fun i ds w' => ds = [] ∧ i ≤ l.length ∧ CntAt w' b (addC f (l.take i) by') ∧ Keeps (· = b) w w') (fun i => l.length - i) 0
    ⟨rfl, Nat.zero_le _, by
      have : addC f (l.take 0) by' = f := by funext x; simp [addC]
      rw [this]; exact h, Keeps.refl _ _⟩ ⟨rfl, rfl, rfl, rfl, rfl, rfl, trivial⟩ ?_
  rintro i ds f0 w1 ⟨rfl, hi, h1, hk1⟩
  skip
  by_cases hlt : i < l.length
  rotate_left
  · have hie : i = l.length := by omega
    subst hie
    rw [List.take_length] at h1
    (repeat first | apply wr_end | apply wc_seq | apply wc_region | (apply wr_cmp; (iterate 3 exact rfl); exact cmpF (by dsimp only [cmpN]; first | done | omega)) | (apply wc_false; exact rfl) | (apply wc_exit; try simp only [thenE, inBlockE, bodyQ, ↓reduceIte, Nat.reduceEqDiff]))
    exact leave0 rfl ⟨rfl, h1, hk1⟩
  obtain ⟨b0, o0, rfl, cur, ee, fr, hb0, hr⟩ := hat (by omega)
  obtain ⟨x, hx⟩ : ∃ x, l[i]? = some x := ⟨l[i], by simp [hlt]⟩
  obtain ⟨C, hC, hCg⟩ := h1
  obtain ⟨C0, hC0, _⟩ := h
  have hb1 := hk1.heap hb0 (fun e => map_ne hC0 hb0 e)
  have hc1 := hk1.heap hc (fun e => map_ne hC0 hc e)
  have hcellb : (GMg wb cb).toArray[0 + 1 + k * 1]? = some (.map (some b)) := by rw [Nat.zero_add, Nat.mul_one]; exact GMg_get hb
  have hxn : x ∉ l.take i := by
    intro hm
    obtain ⟨j, hj⟩ := List.getElem?_of_mem hm
    rw [List.getElem?_take] at hj
    split at hj
    · rename_i hji
      have h1 := (List.getElem?_eq_some_iff.1 hj).2
      have h2 := (List.getElem?_eq_some_iff.1 hx).2
      exact List.pairwise_iff_getElem.1 hnd j i (by omega) hlt hji (h1.trans h2.symm)
    · cases hj
  have hfx : addC f (l.take i) by' x = f x := by unfold addC; rw [if_neg hxn, Int.add_zero]
  have hfr := hf x
  have hbb : -1 ≤ by' ∧ by' ≤ 1 := by omega
  have hnext : addC f (l.take (i + 1)) by' = fun y => if y = x then f x + by' else addC f (l.take i) by' y := by
    funext y
    unfold addC
    rw [List.take_add_one, hx]
    by_cases hyx : y = x
    · subst hyx; simp
    · simp [hyx]
  (repeat first | apply wr_end | apply wc_seq | apply wc_region | apply wc_skip | apply wc_block | (apply wr_cmp; (iterate 3 exact rfl); exact cmpT (by dsimp only [cmpP]; first | done | omega)) | (apply wc_true; exact rfl))
  refine wr_indexAddr (i := i) rfl rfl rfl hlt ?_
  refine wr_load (v := S x) rfl rfl rfl hb1 (hr i x hx) ?_
  (repeat first | (apply wr_move; exact rfl; with_reducible (conv => enter [6, 3]; whnf)) | (apply wr_assign; exact rfl; with_reducible (conv => enter [6, 3]; whnf)) | apply wr_end | apply wc_seq | apply wc_region | (apply wr_fieldAddr; iterate 2 exact rfl) | (apply wr_nilCheck; iterate 2 exact rfl))
  refine wr_indexArr (i := k) rfl rfl rfl hk ?_
  refine wr_load (v := .map (some b)) rfl rfl rfl hc1 hcellb ?_
  (repeat first | (apply wr_move; exact rfl; with_reducible (conv => enter [6, 3]; whnf)))
  refine wr_lookup (l := C) (a := x) rfl rfl hC rfl ?_
  rw [CntAt.get (w := w1) (b := b) hCg x, hfx]
  (repeat first | (apply wr_move; exact rfl; with_reducible (conv => enter [6, 3]; whnf)) | (apply wr_add; (iterate 3 exact rfl); exact w_fit (by dsimp only [kIn]; first | done | omega)))
  refine wr_update (l := C) (a := x) rfl rfl hC rfl rfl ?_
  intro w2 hC2 hk2
  have hk12 := hk1.trans hk2
  have hc2 := hk2.heap hc1 (fun e => map_ne hC hc1 e)
  have hg2 : ∀ y, getM (putM C x (.int .i64 (f x + by'))) y = if y = x then some (.int .i64 (f x + by')) else getM C y := fun y => getM_putM C x y _
  (repeat first | (apply wr_move; exact rfl; with_reducible (conv => enter [6, 3]; whnf)) | apply wr_end | apply wc_seq | apply wc_region | (apply wr_fieldAddr; iterate 2 exact rfl) | (apply wr_nilCheck; iterate 2 exact rfl))
  refine wr_indexArr (i := k) rfl rfl rfl hk ?_
  refine wr_load (v := .map (some b)) rfl rfl rfl hc2 hcellb ?_
  (repeat first | (apply wr_move; exact rfl; with_reducible (conv => enter [6, 3]; whnf)))
  refine wr_lookup (l := putM C x (.int .i64 (f x + by'))) (a := x) rfl rfl hC2 rfl ?_
  rw [hg2, if_pos rfl]
  dsimp only [Option.getD_some]
  by_cases hz : f x + by' = 0
  · (repeat first | (apply wr_move; exact rfl; with_reducible (conv => enter [6, 3]; whnf)) | apply wr_end | apply wc_region | (apply wr_fieldAddr; iterate 2 exact rfl) | (apply wr_nilCheck; iterate 2 exact rfl) | (apply wr_cmp; (iterate 3 exact rfl); exact cmpT (by dsimp only [cmpP]; first | done | omega)) | (apply wc_true; exact rfl))
    refine wr_indexArr (i := k) rfl rfl rfl hk ?_
    refine wr_load (v := .map (some b)) rfl rfl rfl hc2 hcellb ?_
    (repeat first | (apply wr_move; exact rfl; with_reducible (conv => enter [6, 3]; whnf)))
    refine wr_delete (l := putM C x (.int .i64 (f x + by'))) (a := x) rfl rfl hC2 rfl ?_
    intro w3 hC3 hk3
    (repeat first | (apply wr_move; exact rfl; with_reducible (conv => enter [6, 3]; whnf)) | apply wr_end | apply wc_region | (apply wr_add; (iterate 3 exact rfl); exact w_fit (by dsimp only [kIn]; first | done | omega)) | (apply wr_nil; try simp only [thenE, inBlockE, bodyQ]))
    refine ⟨i + 1, by omega, ⟨by trivial, hlt, ?_, hk12.trans hk3⟩, rfl, rfl, rfl, rfl, rfl, rfl, trivial⟩
    rw [hnext]
    refine ⟨_, hC3, fun y => ?_⟩
    rw [getM_delM, hg2]
    by_cases hyx : y = x
    · simp only [if_pos hyx, if_pos hz]
    · rw [if_neg hyx, if_neg hyx, hCg]
      simp only [if_neg hyx]
  · (repeat first | (apply wr_move; exact rfl; with_reducible (conv => enter [6, 3]; whnf)) | apply wr_end | apply wc_region | apply wc_skip | (apply wr_cmp; (iterate 3 exact rfl); exact cmpF (by dsimp only [cmpN]; first | done | omega)) | (apply wr_add; (iterate 3 exact rfl); exact w_fit (by dsimp only [kIn]; first | done | omega)) | (apply wc_false; exact rfl))
    refine ⟨i + 1, by omega, ⟨by trivial, hlt, ?_, hk12⟩, rfl, rfl, rfl, rfl, rfl, rfl, trivial⟩
    rw [hnext]
    refine ⟨_, hC2, fun y => ?_⟩
    rw [hg2]
    by_cases hyx : y = x
    · simp only [if_pos hyx]
      rw [if_neg hz]
    · rw [if_neg hyx, hCg]
      simp only [if_neg hyx]
end Go.Proofs.YtajajahofkialaaGreatDoor
