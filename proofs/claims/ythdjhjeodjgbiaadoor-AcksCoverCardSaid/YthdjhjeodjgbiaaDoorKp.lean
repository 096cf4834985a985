/- AcksKeys. -/
import Derived.Test.YthdjhjeodjgbiaaDoorKo
namespace Go.Proofs.YthdjhjeodjgbiaaDoor
open Go Go.V Go.RowKit
set_option linter.unusedVariables false
set_option linter.unusedSimpArgs false

section ops
variable {P : Program} {ops : Array Oper} {Q : Post} {ds : List Deferred} {f : Env} {w w' : World} {rest : List Oper}
variable {d : Option Nat} {ty : TypeId} {pos : String} {af : Array Edge} {g : Option (Nat × Bool)}
/-- The address of an array's element. -/
theorem wr_indexArr {t e : TypeId} {z : Value} {size by' len : Nat} {x y : Operand} {b o : Nat} {k : IntKind} {i : Nat} [U : Und P t (.array len e)] [I : Info P e z size by'] (hw : wantedE ops f ⟨d, .indexAddr t x y, ty, pos, af, g⟩ = true) (hx : ev f x = .pointer (some ⟨b, o, none⟩)) (hy : ev f y = .int k (i : Int))
    (hi : i < len) (kk : Wr P ops Q ds rest (setO f d (.pointer (some ⟨b, o + i * size, none⟩))) w) : Wr P ops Q ds (⟨d, .indexAddr t x y, ty, pos, af, g⟩ :: rest) f w := by
  refine wr_v (s := Instr.indexAt t (ev f x) (ev f y)) (v := .pointer (some ⟨b, o + i * size, none⟩)) hw rfl ?_ kk
  rw [hx, hy]
  simp only [Instr.indexAt, asIntOf, Sem.run_bind, Sem.run_pure, Result.andThen_ok, run_und U, Instr.sureAddr]
  rw [if_pos ⟨by omega, by omega⟩]
  simp only [Sem.run_bind, run_sizeOf' I, Result.andThen_ok, Sem.run_pure, Int.toNat_natCast, addr_add]
end ops
theorem key_guard : Tryd.prog.eqGuardType Tryd.prog.depth 27 = false := by kernel_rfl
theorem key_eqOk (x y : KY) (w : World) : EqOk Tryd.prog w 9999 (GK x).toArray (GK y).toArray [⟨"Type", 3, 0, false, "", "", 0⟩, ⟨"Name", 9, 1, false, "", "", 8⟩] [decide (x.1 = y.1), decide (x.2 = y.2)] :=
  ⟨⟨by decide, _, _, run_part1 Tryd.underlying3 rfl rfl, run_part1 Tryd.underlying3 rfl rfl, equalIn_int 9998 inferInstance _ _ _⟩,
   ⟨by decide, _, _, run_part1 Tryd.underlying9 rfl rfl, run_part1 Tryd.underlying9 rfl rfl, equalIn_str 9998 inferInstance _ _ _⟩, trivial⟩
theorem getL_delL {β : Type} (L : List (KY × β)) (k x : KY) : getL (delL L k) x = if x = k then none else getL L x := by
  unfold delL getL
  induction L with
  | nil => simp
  | cons p M ih =>
    by_cases hp : p.1 = k
    · rw [List.filter_cons_of_neg (by simp [hp]), ih, List.find?_cons]
      by_cases hx : x = k
      · simp [hx]
      · have : ¬ p.1 = x := fun e => hx (by rw [← e, hp])
        simp [hx, this]
    · rw [List.filter_cons_of_pos (by simp [hp]), List.find?_cons, List.find?_cons]
      by_cases hpx : p.1 = x
      · have : ¬ x = k := fun e => hp (by rw [hpx, e])
        simp [hpx, this]
      · simp only [hpx, decide_false]
        exact ih
theorem PL_del (L : List (KY × ND)) (k : KY) : PL (delL L k) = delL (PL L) k := by
  unfold PL delL
  rw [List.filter_map]
  rfl
def keys6 : List KY := [(1, [97]), (1, [98]), (2, [97]), (3, [97]), (4, [97]), (5, [122])]
def k6 (j : Nat) : KY := (keys6[j]?).getD (1, [97])
theorem k6_at {j : Nat} (h : j < 6) : keys6[j]? = some (k6 j) := by
  have h1 : ∀ j, j < 6 → keys6[j]? = some (k6 j) := by decide +kernel
  exact h1 j h
theorem k6_inj {i j : Nat} (hi : i < 6) (hj : j < 6) (h : k6 i = k6 j) : i = j := by
  have h1 : ∀ i, i < 6 → ∀ j, j < 6 → k6 i = k6 j → i = j := by decide +kernel
  exact h1 i hi j hj h
theorem k6_ok {j : Nat} (h : j < 6) : keyOk (k6 j) ∧ (k6 j).2 ≠ star ∧ (k6 j).2.length ≤ 64 := by
  have h1 : ∀ j, j < 6 → keyOk (k6 j) ∧ (k6 j).2 ≠ star ∧ (k6 j).2.length ≤ 64 := by decide +kernel
  exact h1 j h
theorem stOk6 {j q : Nat} (h : j < 6) (hq : 1 ≤ q) : stOk (k6 j, q, true, []) := ⟨(k6_ok h).1, (k6_ok h).2.1, hq, by show (0 : Nat) ≤ 256; decide, fun _ => rfl⟩
theorem k6_srt : (List.range 6).Pairwise fun i j => ¬ ltK (k6 j) (k6 i) := by decide +kernel
theorem ltK_anti (a b : KY) (h1 : ¬ ltK b a) (h2 : ¬ ltK a b) : a = b := by
  unfold ltK at h1 h2
  have e1 : a.1 = b.1 := by
    have a1 : ¬ b.1 < a.1 := fun h => h1 (.inl h)
    have a2 : ¬ a.1 < b.1 := fun h => h2 (.inl h)
    omega
  have b1 : ¬ b.2 < a.2 := fun h => h1 (.inr ⟨e1.symm, h⟩)
  have b2 : ¬ a.2 < b.2 := fun h => h2 (.inr ⟨e1, h⟩)
  exact Prod.ext e1 (bytesLt_tri a.2 b.2 b2 b1)
structure KInv (P : List (KY × PN)) (m : Nat → Nat) : Prop where
  ofK : ∀ k p, getL P k = some p → ∃ j, j < 6 ∧ k = k6 j ∧ 0 < m j ∧ p.T 7 = m j
  allK : ∀ j, j < 6 → 0 < m j → ∃ p, getL P (k6 j) = some p
def setM (m : Nat → Nat) (j n : Nat) : Nat → Nat := fun x => if x = j then n else m x
def msC (m : Nat → Nat) : Array Value := #[.int .u64 ((m 0 : Nat) : Int), .int .u64 ((m 1 : Nat) : Int), .int .u64 ((m 2 : Nat) : Int), .int .u64 ((m 3 : Nat) : Int), .int .u64 ((m 4 : Nat) : Int), .int .u64 ((m 5 : Nat) : Int)]
theorem msC_at (m : Nat → Nat) {j : Nat} (h : j < 6) : (msC m)[0 + j * 1]? = some (.int .u64 ((m j : Nat) : Int)) := by
  match j, h with
  | 0, _ => rfl
  | 1, _ => rfl
  | 2, _ => rfl
  | 3, _ => rfl
  | 4, _ => rfl
  | 5, _ => rfl
theorem msC_set (m : Nat → Nat) {j : Nat} (h : j < 6) (n : Nat) : (msC m).setIfInBounds (0 + j * 1) (.int .u64 (n : Int)) = msC (setM m j n) := by
  match j, h with
  | 0, _ => rfl
  | 1, _ => rfl
  | 2, _ => rfl
  | 3, _ => rfl
  | 4, _ => rfl
  | 5, _ => rfl
theorem KInv.least {P : List (KY × PN)} {m : Nat → Nat} (h : KInv P m) {j : Nat} (hj : j < 6) : leastP (getL P (k6 j)) [7] = m j := by
  cases hg : getL P (k6 j) with
  | none =>
    show 0 = m j
    rcases Nat.eq_zero_or_pos (m j) with h0 | h0
    · exact h0.symm
    · obtain ⟨p, hp⟩ := h.allK j hj h0
      rw [hg] at hp; cases hp
  | some p =>
    obtain ⟨i, hi, e, h1, h2⟩ := h.ofK _ _ hg
    have := k6_inj hj hi e
    subst this
    unfold leastP
    simp [h2]
theorem KInv.note {P : List (KY × PN)} {m : Nat → Nat} (h : KInv P m) {j n : Nat} (hj : j < 6) (hn : 0 < n) :
    KInv (putL P (k6 j) (noteP ((getL P (k6 j)).getD PN.new) 7 (k6 j, n, true, []))) (setM m j (max (m j) n)) := by
  have hT : ((getL P (k6 j)).getD PN.new).T 7 = m j := by
    cases hg : getL P (k6 j) with
    | none =>
      show 0 = m j
      rcases Nat.eq_zero_or_pos (m j) with h0 | h0
      · exact h0.symm
      · obtain ⟨p, hp⟩ := h.allK j hj h0
        rw [hg] at hp; cases hp
    | some p =>
      obtain ⟨i, hi, e, h1, h2⟩ := h.ofK _ _ hg
      have := k6_inj hj hi e
      subst this
      exact h2
  constructor
  · intro k p hp
    rw [getL_put] at hp
    by_cases hk : k = k6 j
    · rw [if_pos hk] at hp
      cases hp
      refine ⟨j, hj, hk, ?_, ?_⟩
      · unfold setM; rw [if_pos rfl]; omega
      · unfold noteP setM
        rw [if_pos rfl, if_pos rfl]
        dsimp only
        unfold setT
        rw [if_pos rfl, hT]
    · rw [if_neg hk] at hp
      obtain ⟨i, hi, e, h1, h2⟩ := h.ofK _ _ hp
      have hij : i ≠ j := fun e' => hk (by rw [e, e'])
      refine ⟨i, hi, e, ?_, ?_⟩
      · unfold setM; rw [if_neg hij]; exact h1
      · unfold setM; rw [if_neg hij]; exact h2
  · intro i hi h0
    rw [getL_put]
    by_cases hij : k6 i = k6 j
    · exact ⟨_, if_pos hij⟩
    · rw [if_neg hij]
      have hne : i ≠ j := fun e => hij (by rw [e])
      unfold setM at h0
      rw [if_neg hne] at h0
      exact h.allK i hi h0
theorem KInv.forget {P : List (KY × PN)} {m : Nat → Nat} (h : KInv P m) {j : Nat} (hj : j < 6) : KInv (delL P (k6 j)) (setM m j 0) := by
  constructor
  · intro k p hp
    rw [getL_delL] at hp
    by_cases hk : k = k6 j
    · rw [if_pos hk] at hp; cases hp
    · rw [if_neg hk] at hp
      obtain ⟨i, hi, e, h1, h2⟩ := h.ofK _ _ hp
      have hij : i ≠ j := fun e' => hk (by rw [e, e'])
      exact ⟨i, hi, e, by unfold setM; rw [if_neg hij]; exact h1, by unfold setM; rw [if_neg hij]; exact h2⟩
  · intro i hi h0
    have hne : i ≠ j := fun e => by subst e; unfold setM at h0; rw [if_pos rfl] at h0; omega
    rw [getL_delL, if_neg (fun e => hne (k6_inj hi hj e))]
    unfold setM at h0
    rw [if_neg hne] at h0
    exact h.allK i hi h0
def gotK (m : Nat → Nat) : List KY := ((List.range 6).filter fun j => decide (0 < m j)).map k6
theorem getL_isSome {β : Type} {L : List (KY × β)} {k : KY} : (∃ p, getL L k = some p) ↔ k ∈ L.map (·.1) := by
  constructor
  · rintro ⟨p, hp⟩
    exact List.mem_map.2 ⟨_, getL_mem hp, rfl⟩
  · intro h
    have := getL_some h
    cases hg : getL L k with
    | none => rw [hg] at this; cases this
    | some p => exact ⟨p, rfl⟩
theorem KInv.keys {P : List (KY × PN)} {m : Nat → Nat} (h : KInv P m) (hn : (P.map (·.1)).Nodup) : (P.map (·.1)).Perm (gotK m) := by
  have hg : (gotK m).Nodup := by
    unfold gotK
    show List.Pairwise (· ≠ ·) _
    rw [List.pairwise_map]
    refine List.Pairwise.imp_of_mem ?_ (List.nodup_range.sublist List.filter_sublist)
    intro i j hi hj hne e
    have h1 := List.mem_range.1 (List.mem_filter.1 hi).1
    have h2 := List.mem_range.1 (List.mem_filter.1 hj).1
    exact hne (k6_inj h1 h2 e)
  rw [List.perm_ext_iff_of_nodup hn hg]
  intro k
  rw [← getL_isSome]
  unfold gotK
  rw [List.mem_map]
  constructor
  · rintro ⟨p, hp⟩
    obtain ⟨j, hj, e, h1, _⟩ := h.ofK k p hp
    exact ⟨j, List.mem_filter.2 ⟨List.mem_range.2 hj, by simpa using h1⟩, e.symm⟩
  · rintro ⟨j, hj, rfl⟩
    obtain ⟨h1, h2⟩ := List.mem_filter.1 hj
    exact h.allK j (List.mem_range.1 h1) (by simpa using h2)
theorem gotK_srt (m : Nat → Nat) : (gotK m).Pairwise fun a b => ¬ ltK b a := by
  unfold gotK
  rw [List.pairwise_map]
  exact k6_srt.sublist List.filter_sublist
def atK (m : Nat → Nat) (i : Nat) : Nat := ((List.range i).filter fun j => decide (0 < m j)).length
theorem atK_succ (m : Nat → Nat) (i : Nat) : atK m (i + 1) = atK m i + if 0 < m i then 1 else 0 := by
  unfold atK
  rw [List.range_succ, List.filter_append, List.length_append]
  by_cases h : 0 < m i <;> simp [h]
theorem gotK_at (m : Nat → Nat) {i : Nat} (hi : i < 6) (h : 0 < m i) : (gotK m)[atK m i]? = some (k6 i) := by
  have h1 : List.range 6 = List.range i ++ (i :: (List.range (5 - i)).map fun x => i + (x + 1)) := by
    rw [show (6 : Nat) = i + ((5 - i) + 1) by omega, List.range_add, List.range_succ_eq_map, List.map_cons, List.map_map]
    simp [Function.comp_def]
  unfold gotK atK
  rw [h1, List.filter_append, List.filter_cons_of_pos (by simpa using h), List.map_append, List.getElem?_append_right (by simp), List.map_cons]
  simp
theorem atK_6 (m : Nat → Nat) : atK m 6 = (gotK m).length := by unfold atK gotK; rw [List.length_map]
def keysC6 : Array Value := (keys6.flatMap GK).toArray
set_option maxRecDepth 100000 in
set_option maxHeartbeats 8000000 in
theorem keys_law (bl : List Nat) (which : Nat) (v0 : Value) (w : World) (hv : SlR w 1 v0 bl.length (IB bl)) (h8 : ∀ z ∈ bl, z < 256) (hw8 : which < 256) :
    Ca Tryd.prog 5 #[v0, .int .u8 (which : Int)] w fun v w' => v = .bool true ∧ Keeps NoB w w' := by
  obtain ⟨va, vc, rfl, hvl, hvm⟩ := hv.shape
  refine ca_of_body (args := [.slice va bl.length vc, .int .u8 (which : Int)]) Tryd.func5 rfl (by kernel_rfl) ?_
  (repeat first | (apply wr_assign; exact rfl; with_reducible (conv => enter [6, 3]; whnf)) | apply wr_end | apply wc_seq | apply wc_region)
  refine wr_call (vs := []) rfl (examples_ca w) rfl ?_
  rintro v w0 ⟨rfl, hk0⟩
  (repeat first | (apply wr_move; exact rfl; with_reducible (conv => enter [6, 3]; whnf)) | (apply wr_assign; exact rfl; with_reducible (conv => enter [6, 3]; whnf)) | apply wr_end | apply wc_seq | apply wc_region | apply wc_skip | (apply wr_not; iterate 2 exact rfl) | (apply wc_false; exact rfl))
  refine wr_call (vs := []) rfl (new_ca w0) rfl ?_
  rintro v w1 ⟨ab, mb, rfl, h1, hk1, hmb, hab⟩
  have hA1 : Above w0.heap.size mb [] := Above.nil hmb
  have hz1 := hk1.size
  (repeat first | (apply wr_move; exact rfl; with_reducible (conv => enter [6, 3]; whnf)) | (apply wr_assign; exact rfl; with_reducible (conv => enter [6, 3]; whnf)) | apply wr_end | apply wc_seq | apply wc_region)
  refine wr_ptrNil rfl rfl ?_
  (repeat first | apply wr_end | apply wc_seq | apply wc_region | apply wc_skip | (apply wc_false; exact rfl))
  refine wr_build (ps := [(0, .int .i64 1), (1, S [97])]) (cs := [.int .i64 1, S [97]]) rfl rfl rfl rfl ?_
  refine wr_build (ps := [(0, .int .i64 1), (1, S [98])]) (cs := [.int .i64 1, S [98]]) rfl rfl rfl rfl ?_
  refine wr_build (ps := [(0, .int .i64 2), (1, S [97])]) (cs := [.int .i64 2, S [97]]) rfl rfl rfl rfl ?_
  refine wr_build (ps := [(0, .int .i64 3), (1, S [97])]) (cs := [.int .i64 3, S [97]]) rfl rfl rfl rfl ?_
  refine wr_build (ps := [(0, .int .i64 4), (1, S [97])]) (cs := [.int .i64 4, S [97]]) rfl rfl rfl rfl ?_
  refine wr_build (ps := [(0, .int .i64 5), (1, S [122])]) (cs := [.int .i64 5, S [122]]) rfl rfl rfl rfl ?_
  refine wr_buildSlice (vs := keys6.map fun k => .agg (GK k).toArray) rfl rfl (by intro v hv; obtain ⟨k, _, rfl⟩ := List.mem_map.1 hv; rfl) rfl (by decide) (by decide) (by decide) ?_
  refine wr_name ?_
  intro w2 hw2
  obtain ⟨b5, hb5⟩ : ∃ b, b = w1.heap.size := ⟨_, rfl⟩
  have hk2 : Keeps NoB w1 w2 := by rw [hw2]; exact (Keeps.refl NoB w1).alloc _
  have hc2 : w2.heap[b5]? = some (.cells keysC6 27 (0, 0)) := by rw [hw2, hb5]; exact (heap_alloc_same _ _).trans (by rfl)
  rw [← hb5]
  clear hw2
  (repeat first | (apply wr_assign; exact rfl; with_reducible (conv => enter [6, 3]; whnf)) | apply wr_end | apply wc_seq | apply wc_region | apply wc_block | (apply wr_alloc; exact rfl))
  refine wc_name ?_
  intro w3 hw3
  obtain ⟨b6, hb6⟩ : ∃ b, b = w2.heap.size := ⟨_, rfl⟩
  have hk3 : Keeps NoB w2 w3 := by rw [hw3]; exact (Keeps.refl NoB w2).alloc _
  have hc3 : w3.heap[b6]? = some (.cells (msC fun _ => 0) 46 (0, 0)) := by rw [hw3, hb6]; exact (heap_alloc_same _ _).trans (by rfl)
  rw [← hb6]
  clear hw3
  have hK3 := (hk1.trans hk2).trans hk3
  have hrdK : ∀ j, j < 6 * 2 → keysC6[0 + j]? = (keys6.flatMap GK)[j]? := fun j hj => by rw [Nat.zero_add]; simp [keysC6]
  have hv3 := hvm
  refine wc_loopL (α := Nat × List (KY × ND) × (Nat → Nat)) (fun p => [(0, .slice va bl.length vc), (1, .int .u8 (which : Int)), (5, .bool true), (6, .pointer (some ⟨ab, 0, none⟩)), (7, .slice (some ⟨b5, 0, none⟩) 6 6), (8, .pointer (some ⟨b6, 0, none⟩)), (9, .int .i64 (p.1 : Int))])
    (fun p ds w' => ds = [] ∧ p.1 ≤ 20 ∧ AcksAt w' w0.heap.size ab mb p.2.1 ∧ KInv (PL p.2.1) p.2.2 ∧ w'.heap[b5]? = some (.cells keysC6 27 (0, 0)) ∧ w'.heap[b6]? = some (.cells (msC p.2.2) 46 (0, 0)) ∧ Above w0.heap.size mb p.2.1 ∧ Keeps NoB w0 w' ∧ w0.heap.size ≤ b5 ∧ w0.heap.size ≤ b6)
    (fun p => 20 - p.1) (0, [], fun _ => 0)
    ⟨rfl, by decide, (h1.keep hk2).keep hk3, ⟨fun k p hp => (by cases hp), fun j hj h0 => absurd h0 (Nat.lt_irrefl 0)⟩, hk3.heap hc2 (fun h => h), hc3, hA1, hK3, by omega, by have := hk2.size; omega⟩ ⟨rfl, rfl, rfl, rfl, rfl, rfl, rfl, trivial⟩ ?_
  rintro ⟨i, L, m⟩ ds f0 w4 ⟨rfl, hi20, h4, hI4, hc54, hc64, hA4, hK4, hz5, hz6⟩
  dsimp only at hi20 h4 hI4 hc54 hc64 hA4 ⊢
  by_cases hgo : i < bl.length ∧ i < 20
  · obtain ⟨hlt, hlt20⟩ := hgo
    obtain ⟨z, hz⟩ : ∃ z, bl[i]? = some z := ⟨bl[i], by simp [hlt]⟩
    have hz8 := h8 z (List.mem_of_getElem? hz)
    have hzc : (IB bl)[i]? = some (.int .u8 (z : Int)) := by simp [IB, hz]
    obtain ⟨vb, vo, rfl, cur, e, fr, hvb, hvr⟩ := hvm (by omega)
    have hvb4 := (hk0.trans hK4).heap hvb (fun h => h)
    obtain ⟨j, hj⟩ : ∃ j, j = z % 6 := ⟨_, rfl⟩
    have hj6 : j < 6 := by omega
    obtain ⟨n, hn⟩ : ∃ n, n = 1 + z / 6 := ⟨_, rfl⟩
    (repeat first | (apply wr_move; exact rfl; with_reducible (conv => enter [6, 3]; whnf)) | apply wr_end | apply wc_seq | apply wc_region | apply wc_skip | apply wc_block | (apply wr_len_slice; iterate 2 exact rfl) | (apply wr_cmp; (iterate 3 exact rfl); exact cmpT (by dsimp only [cmpP]; first | done | omega)) | (apply wr_pick (t := true); (iterate 2 exact rfl); with_reducible (conv => enter [6, 3]; whnf)) | (apply wc_true; exact rfl))
    refine wr_indexAddr (i := i) rfl rfl rfl hlt ?_
    refine wr_load (v := .int .u8 (z : Int)) rfl rfl rfl hvb4 (by rw [Nat.mul_one, hvr _ (by omega)]; exact hzc) ?_
    refine wr_remN (n := z) (m := 6) rfl rfl rfl (by decide) ?_
    rw [← hj]
    (repeat first | (apply wr_move; exact rfl; with_reducible (conv => enter [6, 3]; whnf)) | (apply wr_assign; exact rfl; with_reducible (conv => enter [6, 3]; whnf)) | apply wr_end | apply wc_seq | apply wc_region | (apply wr_conv; (iterate 2 exact rfl); exact w_fit (by dsimp only [kIn]; first | done | omega)))
    refine wr_indexAddr (i := i) rfl rfl rfl hlt ?_
    refine wr_load (v := .int .u8 (z : Int)) rfl rfl rfl hvb4 (by rw [Nat.mul_one, hvr _ (by omega)]; exact hzc) ?_
    refine wr_quoN (n := z) (m := 6) rfl rfl rfl (by decide) (w_u8 (by omega)) ?_
    (repeat first | (apply wr_move; exact rfl; with_reducible (conv => enter [6, 3]; whnf)) | (apply wr_assign; exact rfl; with_reducible (conv => enter [6, 3]; whnf)) | apply wr_end | apply wc_seq | apply wc_region | (apply wr_add; (iterate 3 exact rfl); exact w_fit (by dsimp only [kIn]; first | done | omega)) | (apply wr_conv; (iterate 2 exact rfl); exact w_fit (by dsimp only [kIn]; first | done | omega)))
    refine wr_indexArr (i := j) rfl rfl rfl hj6 ?_
    refine wr_load (v := .int .u64 ((m j : Nat) : Int)) rfl rfl rfl hc64 (msC_at m hj6) ?_
    (repeat first | (apply wr_move; exact rfl; with_reducible (conv => enter [6, 3]; whnf)))
    refine wr_max (c := ((max (m j) n : Nat) : Int)) rfl rfl rfl (by split <;> omega) ?_
    refine wr_indexArr (i := j) rfl rfl rfl hj6 ?_
    refine wr_store (v := .int .u64 ((max (m j) n : Nat) : Int)) rfl rfl rfl rfl hc64 (msC_at m hj6) ?_
    rw [msC_set m hj6]
    refine wr_name ?_
    intro w5 hw5
    have hk5 : Keeps (· = b6) w4 w5 := by rw [hw5]; exact (Keeps.refl _ w4).put _ (fun _ => rfl)
    have hc65 : w5.heap[b6]? = some (.cells (msC (setM m j (max (m j) n))) 46 (0, 0)) := by rw [hw5]; exact World.putObj_heap_same (lt_of_heap hc64)
    clear hw5
    have h5 := h4.keepC hk5 hc64 (by decide) (by decide) (by decide)
    have hc55 := hk5.heap hc54 (ty_ne hc54 hc64 (by decide))
    have hK5 : Keeps NoB w0 w5 := hK4.trans' hk5 (fun q hq e => by omega)
    have hs5 := hK5.size
    (repeat first | (apply wr_move; exact rfl; with_reducible (conv => enter [6, 3]; whnf)) | apply wr_end | apply wc_seq | apply wc_region)
    refine wr_indexAddr (i := j) rfl rfl rfl hj6 ?_
    refine wr_loadElem (G := GK) (n := 6) rfl rfl GK_len rfl hc55 hrdK hj6 (k6_at hj6) rfl ?_
    (repeat first | (apply wr_move; exact rfl; with_reducible (conv => enter [6, 3]; whnf)))
    refine wr_build (ps := [(0, .agg (GK (k6 j)).toArray), (1, .int .u64 ((n : Nat) : Int)), (2, .bool true)]) (cs := GS (k6 j, n, true, [])) rfl (by rw [hn]; rfl) rfl rfl ?_
    refine wr_call (vs := [.pointer (some ⟨ab, 0, none⟩), .int .i64 7, SdV (k6 j, n, true, [])]) rfl (note_ca h5 (by omega) 7 (k6 j, n, true, []) (by have := (k6_ok hj6).2.2; dsimp only; omega) (by show (0 : Nat) ≤ _; decide) (by show n < _; omega)) rfl ?_
    rintro v w6 (⟨hno, _, _⟩ | ⟨_, rfl, L6, h6, hp6, hk6, hs6⟩)
    · exact absurd ⟨stOk6 hj6 (by omega), by decide⟩ hno
    have hc56 := hk6.heap hc55 (h5.free hc55 (by decide) (by decide))
    have hc66 := hk6.heap hc65 (h5.free hc65 (by decide) (by decide))
    (repeat first | (apply wr_move; exact rfl; with_reducible (conv => enter [6, 3]; whnf)) | (apply wr_assign; exact rfl; with_reducible (conv => enter [6, 3]; whnf)) | apply wr_end | apply wc_region | apply wc_skip | (apply wr_cmp; (iterate 3 exact rfl); exact cmpF (by dsimp only [cmpN]; first | done | omega)) | (apply wr_add; (iterate 3 exact rfl); exact w_fit (by dsimp only [kIn]; first | done | omega)) | (apply wc_false; exact rfl))
    refine ⟨(i + 1, L6, setM m j (max (m j) n)), by dsimp only; omega, ⟨by trivial, by dsimp only; omega, h6, ?_, hc56, hc66, hA4.sub hs6 (by omega), hA4.keeps hK5 hk6, hz5, hz6⟩, rfl, rfl, rfl, rfl, rfl, rfl, rfl, trivial⟩
    dsimp only
    rw [hp6]
    exact hI4.note hj6 (by omega)
  obtain ⟨wh, hwh⟩ : ∃ j, j = which % 6 := ⟨_, rfl⟩
  have hwh6 : wh < 6 := by omega
  have hdone : ∀ (Q' : Prop), ((i < bl.length → ¬ i < 20) → Q') → Q' := fun Q' h => h fun h1 h2 => hgo ⟨h1, h2⟩
  have hex : ¬ i < bl.length ∨ (i < bl.length ∧ ¬ i < 20) := by omega
  rcases hex with hex | ⟨hex1, hex2⟩
  all_goals
    (repeat first | (apply wr_move; exact rfl; with_reducible (conv => enter [6, 3]; whnf)) | apply wr_end | apply wc_seq | apply wc_region | (apply wr_len_slice; iterate 2 exact rfl) | (apply wr_cmp; (iterate 3 exact rfl); exact cmpT (by dsimp only [cmpP]; first | done | omega)) | (apply wr_cmp; (iterate 3 exact rfl); exact cmpF (by dsimp only [cmpN]; first | done | omega)) | (apply wr_pick (t := true); (iterate 2 exact rfl); with_reducible (conv => enter [6, 3]; whnf)) | (apply wr_pick (t := false); (iterate 2 exact rfl); with_reducible (conv => enter [6, 3]; whnf)) | (apply wc_false; exact rfl) | (apply wc_exit; try simp only [thenE, inBlockE, bodyQ, ↓reduceIte, Nat.reduceEqDiff]) | (apply wr_skip; exact rfl))
    refine wr_remN (n := which) (m := 6) rfl rfl rfl (by decide) ?_
    rw [← hwh]
    (repeat first | (apply wr_move; exact rfl; with_reducible (conv => enter [6, 3]; whnf)) | (apply wr_assign; exact rfl; with_reducible (conv => enter [6, 3]; whnf)) | apply wr_end | apply wc_seq | apply wc_region | (apply wr_conv; (iterate 2 exact rfl); exact w_fit (by dsimp only [kIn]; first | done | omega)))
    refine wr_indexAddr (i := wh) rfl rfl rfl hwh6 ?_
    refine wr_loadElem (G := GK) (n := 6) rfl rfl GK_len rfl hc54 hrdK hwh6 (k6_at hwh6) rfl ?_
    refine wr_call (vs := [.pointer (some ⟨ab, 0, none⟩), encK (k6 wh)]) rfl (forget_ca h4 (k6 wh)) rfl ?_
    rintro v w5 ⟨rfl, h5, hk5⟩
    have hI5 : KInv (PL (delL L (k6 wh))) (setM m wh 0) := by rw [PL_del]; exact hI4.forget hwh6
    have hc55 := hk5.heap hc54 (map_cells' h4.keys hc54)
    have hc65 := hk5.heap hc64 (map_cells' h4.keys hc64)
    have hK5 := hA4.keeps hK4 (hk5.mono fun q _ e => .inl e)
    (repeat first | (apply wr_move; exact rfl; with_reducible (conv => enter [6, 3]; whnf)) | apply wr_end | apply wc_seq | apply wc_region)
    refine wr_indexArr (i := wh) rfl rfl rfl hwh6 ?_
    refine wr_store (v := .int .u64 ((0 : Nat) : Int)) rfl rfl rfl rfl hc65 (msC_at m hwh6) ?_
    rw [msC_set m hwh6]
    refine wr_name ?_
    intro w6 hw6
    have hk6 : Keeps (· = b6) w5 w6 := by rw [hw6]; exact (Keeps.refl _ w5).put _ (fun _ => rfl)
    have hc66 : w6.heap[b6]? = some (.cells (msC (setM m wh 0)) 46 (0, 0)) := by rw [hw6]; exact World.putObj_heap_same (lt_of_heap hc65)
    clear hw6
    have h6 := h5.keepC hk6 hc65 (by decide) (by decide) (by decide)
    have hc56 := hk6.heap hc55 (ty_ne hc55 hc65 (by decide))
    have hK6 : Keeps NoB w0 w6 := hK5.trans' hk6 (fun q hq e => by omega)
    have hs6 := hK6.size
    generalize delL L (k6 wh) = L5 at h5 hI5 h6
    generalize setM m wh 0 = m5 at hI5 hc66
    have hperm := hI5.keys (by rw [PL_keys]; exact h6.nodup)
    rw [PL_keys] at hperm
    have hgl : (gotK m5).length ≤ 6 := by unfold gotK; rw [List.length_map]; exact List.length_filter_le _ _
    (repeat first | (apply wr_move; exact rfl; with_reducible (conv => enter [6, 3]; whnf)) | apply wr_end | apply wc_seq | apply wc_region)
    refine wr_call (vs := [.pointer (some ⟨ab, 0, none⟩)]) rfl (keys_ca h6 (by have := hperm.length_eq; rw [List.length_map] at this; omega)) rfl ?_
    rintro v w7 ⟨l, hlp, hlsrt, hlo, hk7⟩
    have hlg : l = gotK m5 := List.Perm.eq_of_pairwise (fun a b _ _ h1 h2 => ltK_anti a b h1 h2) hlsrt (gotK_srt m5) (hlp.trans hperm)
    subst hlg
    obtain ⟨ga, gc, rfl, hgr⟩ := own_row hlo
    have h7 := h6.keep hk7
    have hc57 := hk7.heap hc56 (fun h => h)
    have hc67 := hk7.heap hc66 (fun h => h)
    have hK7 := hK6.trans hk7
    (repeat first | (apply wr_assign; exact rfl; with_reducible (conv => enter [6, 3]; whnf)) | apply wr_end | apply wc_seq | apply wc_region | apply wc_block)
    refine wc_loopL (α := Nat) (fun i => [(5, .bool true), (6, .pointer (some ⟨ab, 0, none⟩)), (7, .slice (some ⟨b5, 0, none⟩) 6 6), (8, .pointer (some ⟨b6, 0, none⟩)), (13, .slice ga (gotK m5).length gc), (14, .int .i64 ((atK m5 i : Nat) : Int)), (15, .int .i64 (i : Int))])
      (fun i ds w' => ds = [] ∧ i ≤ 6 ∧ Keeps NoB w7 w') (fun i => 6 - i) 0 ⟨rfl, by decide, Keeps.refl _ _⟩ ⟨rfl, rfl, rfl, rfl, rfl, rfl, rfl, trivial⟩ ?_
    rintro i' ds f1 w8 ⟨rfl, hi6, hk8⟩
    have hK8 := hK7.trans hk8
    by_cases hlt6 : i' < 6
    rotate_left
    · have hie : i' = 6 := by omega
      subst hie
      rw [atK_6]
      (repeat first | (apply wr_move; exact rfl; with_reducible (conv => enter [6, 3]; whnf)) | (apply wr_assign; exact rfl; with_reducible (conv => enter [6, 3]; whnf)) | apply wr_end | apply wc_seq | apply wc_region | (apply wr_len_slice; iterate 2 exact rfl) | (apply wr_cmp; (iterate 3 exact rfl); exact cmpT (by dsimp only [cmpP]; first | done | omega)) | (apply wr_cmp; (iterate 3 exact rfl); exact cmpF (by dsimp only [cmpN]; first | done | omega)) | (apply wr_pick (t := true); (iterate 2 exact rfl); with_reducible (conv => enter [6, 3]; whnf)) | (apply wc_false; exact rfl) | (apply wc_exit; try simp only [thenE, inBlockE, bodyQ, ↓reduceIte, Nat.reduceEqDiff]) | (apply wc_ret; try simp only [thenE, inBlockE, bodyQ]))
      exact leave1 (v := .bool true) rfl rfl ⟨rfl, hk0.trans hK8⟩
    have h8 := h7.keep hk8
    have hc58 := hk8.heap hc57 (fun h => h)
    have hc68 := hk8.heap hc67 (fun h => h)
    have hkd : ∀ {w'}, Keeps NoB w8.drew w' → Keeps NoB w8 w' := fun hk => (Keeps.refl NoB w8).drew.trans hk
    have hlst : leastP ((getL L5 (k6 i')).map (·.p)) [7] = m5 i' := by rw [← getPL]; exact hI5.least hlt6
    (repeat first | (apply wr_move; exact rfl; with_reducible (conv => enter [6, 3]; whnf)) | apply wr_end | apply wc_seq | apply wc_region | apply wc_skip | apply wc_block | (apply wr_cmp; (iterate 3 exact rfl); exact cmpT (by dsimp only [cmpP]; first | done | omega)) | (apply wc_true; exact rfl))
    refine wc_drawP (l := _) 11 _ (by kernel_rfl) (by kernel_rfl) rfl (by kernel_rfl) (by kernel_rfl) (by decide) ?_
    apply chP_pure
    focus
      intro xx w' hk hF
      apply wr_move; exact rfl; with_reducible (conv => enter [6, 3]; whnf)
      apply wr_nil
      exact ⟨rfl, Keeps.refl _ _⟩
    focus (intro xx yy h; rfl)
    focus kernel_rfl
    apply chP_pure
    focus
      intro xx w' hk hF
      apply wr_move; exact rfl; with_reducible (conv => enter [6, 3]; whnf)
      apply wr_nil
      exact ⟨rfl, Keeps.refl _ _⟩
    focus (intro xx yy h; rfl)
    focus kernel_rfl
    apply chP_pure
    focus
      intro xx w' hk hF
      apply wr_move; exact rfl; with_reducible (conv => enter [6, 3]; whnf)
      apply wr_nil
      exact ⟨rfl, Keeps.refl _ _⟩
    focus (intro xx yy h; rfl)
    focus kernel_rfl
    apply chP_pure
    focus
      intro xx w' hk hF
      refine wr_indexAddr (i := i') rfl rfl rfl hlt6 ?_
      apply wr_nil
      exact ⟨rfl, Keeps.refl _ _⟩
    focus (intro xx yy h; rfl)
    focus kernel_rfl
    apply chP_pure
    focus
      intro xx w' hk hF
      refine wr_loadElem (G := GK) (n := 6) rfl rfl GK_len rfl ((hkd hk).heap hc58 (fun h => h)) hrdK hlt6 (k6_at hlt6) rfl ?_
      apply wr_nil
      exact ⟨rfl, Keeps.refl _ _⟩
    focus (intro xx yy h; rfl)
    focus kernel_rfl
    refine chP_fact (fun y => .slice (some ⟨blkOf y, 0, none⟩) 1 1) (fun y w' => w'.heap[blkOf y]? = some (.cells (([7] : List Int).map (Value.int .i64)).toArray 3 (0, 0))) (fun y w' w'' h k => k.heap h (fun h => h)) ?_ ?_
    focus
      intro xx w' hk hF
      refine wr_buildSlice (vs := ([7] : List Int).map (Value.int .i64)) rfl rfl (by intro v hv; obtain ⟨z, _, rfl⟩ := List.mem_map.1 hv; rfl) rfl (by decide) (by decide) (by decide) ?_
      apply wr_nil
      exact ⟨.pointer (some ⟨w'.heap.size, 0, none⟩), rfl, (heap_alloc_same _ _).trans (by rfl), (Keeps.refl _ _).alloc _⟩
    apply chP_pure
    focus
      intro xx w' hk hF
      have hb5' : w'.heap[blkOf (xx 5)]? = some (.cells (([7] : List Int).map (Value.int .i64)).toArray 3 (0, 0)) := hF 5 (by kernel_rfl)
      refine wr_call (vs := [.pointer (some ⟨ab, 0, none⟩), encK (k6 i'), .slice (some ⟨blkOf (xx 5), 0, none⟩) 1 1]) rfl (least_ca (h8.keep (hkd hk)) (k6 i') [7] _ (slR_block hb5' rfl) (by decide)) rfl ?_
      rintro v w'' ⟨rfl, hkc⟩
      rw [hlst]
      apply wr_nil
      exact ⟨rfl, hkc⟩
    focus (intro xx yy h; rfl)
    focus kernel_rfl
    apply chP_pure
    focus
      intro xx w' hk hF
      apply wr_move; exact rfl; with_reducible (conv => enter [6, 3]; whnf)
      apply wr_nil
      exact ⟨rfl, Keeps.refl _ _⟩
    focus (intro xx yy h; rfl)
    focus kernel_rfl
    apply chP_pure
    focus
      intro xx w' hk hF
      refine wr_indexArr (i := i') rfl rfl rfl hlt6 ?_
      apply wr_nil
      exact ⟨rfl, Keeps.refl _ _⟩
    focus (intro xx yy h; rfl)
    focus kernel_rfl
    apply chP_pure
    focus
      intro xx w' hk hF
      refine wr_load (v := .int .u64 ((m5 i' : Nat) : Int)) rfl rfl rfl ((hkd hk).heap hc68 (fun h => h)) (msC_at m5 hlt6) ?_
      apply wr_nil
      exact ⟨rfl, Keeps.refl _ _⟩
    focus (intro xx yy h; rfl)
    focus kernel_rfl
    apply chP_pure
    focus
      intro xx w' hk hF
      apply wr_cmp; (iterate 3 exact rfl); exact cmpF (by dsimp only [cmpN]; first | done | omega)
      apply wr_nil
      exact ⟨rfl, Keeps.refl _ _⟩
    focus (intro xx yy h; rfl)
    focus kernel_rfl
    refine chP_nil ?_
    intro xx w9 hk9' hF
    have hk9 := hkd hk9'
    have hc69 := hk9.heap hc68 (fun h => h)
    have hc59 := hk9.heap hc58 (fun h => h)
    have hk89 := hk8.trans hk9
    by_cases hm0 : 0 < m5 i'
    rotate_left
    · have hat : atK m5 (i' + 1) = atK m5 i' := by rw [atK_succ, if_neg hm0]; rfl
      (repeat first | (apply wr_move; exact rfl; with_reducible (conv => enter [6, 3]; whnf)) | apply wr_end | apply wc_seq | apply wc_region | apply wc_skip | (apply wc_false; exact rfl))
      refine wr_indexArr (i := i') rfl rfl rfl hlt6 ?_
      refine wr_load (v := .int .u64 ((m5 i' : Nat) : Int)) rfl rfl rfl hc69 (msC_at m5 hlt6) ?_
      (repeat first | (apply wr_move; exact rfl; with_reducible (conv => enter [6, 3]; whnf)) | (apply wr_assign; exact rfl; with_reducible (conv => enter [6, 3]; whnf)) | apply wr_end | apply wc_region | apply wc_skip | (apply wr_cmp; (iterate 3 exact rfl); exact cmpF (by dsimp only [cmpN]; first | done | omega)) | (apply wr_add; (iterate 3 exact rfl); exact w_fit (by dsimp only [kIn]; first | done | omega)) | (apply wc_false; exact rfl))
      exact ⟨i' + 1, by omega, ⟨by trivial, by omega, hk89⟩, rfl, rfl, rfl, rfl, rfl, (by rw [hat]; try rfl), rfl, trivial⟩
    have hat : atK m5 (i' + 1) = atK m5 i' + 1 := by rw [atK_succ, if_pos hm0]
    have hgk := gotK_at m5 hlt6 hm0
    have hatl := (List.getElem?_eq_some_iff.1 hgk).1
    obtain ⟨gb, gcur, rfl, hgb, hgcur, hgrd⟩ := hgr (by omega)
    have hg9 := (hk89).heap hgcur (fun h => h)
    have hgrd' : ∀ j, j < (gotK m5).length * 2 → gcur[0 + j]? = ((gotK m5).flatMap GK)[j]? := fun j hj => by rw [Nat.zero_add]; exact hgrd j hj
    have hkd9 : ∀ {w'}, Keeps NoB w9.drew w' → Keeps NoB w9 w' := fun hk => (Keeps.refl NoB w9).drew.trans hk
    (repeat first | (apply wr_move; exact rfl; with_reducible (conv => enter [6, 3]; whnf)) | apply wr_end | apply wc_seq | apply wc_region | apply wc_skip | (apply wc_false; exact rfl))
    refine wr_indexArr (i := i') rfl rfl rfl hlt6 ?_
    refine wr_load (v := .int .u64 ((m5 i' : Nat) : Int)) rfl rfl rfl hc69 (msC_at m5 hlt6) ?_
    (repeat first | apply wr_end | apply wc_seq | (apply wr_cmp; (iterate 3 exact rfl); exact cmpT (by dsimp only [cmpP]; first | done | omega)) | (apply wc_true; exact rfl))
    refine wc_drawP (l := _) 15 _ (by kernel_rfl) (by kernel_rfl) rfl (by kernel_rfl) (by kernel_rfl) (by decide) ?_
    apply chP_pure
    focus
      intro xx w' hk hF
      apply wr_move; exact rfl; with_reducible (conv => enter [6, 3]; whnf)
      apply wr_nil
      exact ⟨rfl, Keeps.refl _ _⟩
    focus (intro xx yy h; rfl)
    focus kernel_rfl
    apply chP_pure
    focus
      intro xx w' hk hF
      apply wr_move; exact rfl; with_reducible (conv => enter [6, 3]; whnf)
      apply wr_nil
      exact ⟨rfl, Keeps.refl _ _⟩
    focus (intro xx yy h; rfl)
    focus kernel_rfl
    apply chP_pure
    focus
      intro xx w' hk hF
      refine wr_len_slice rfl rfl ?_
      apply wr_nil
      exact ⟨rfl, Keeps.refl _ _⟩
    focus (intro xx yy h; rfl)
    focus kernel_rfl
    apply chP_pure
    focus
      intro xx w' hk hF
      apply wr_cmp; (iterate 3 exact rfl); exact cmpF (by dsimp only [cmpN]; omega)
      apply wr_nil
      exact ⟨rfl, Keeps.refl _ _⟩
    focus (intro xx yy h; rfl)
    focus kernel_rfl
    apply chP_pure
    focus
      intro xx w' hk hF
      apply wr_move; exact rfl; with_reducible (conv => enter [6, 3]; whnf)
      apply wr_nil
      exact ⟨rfl, Keeps.refl _ _⟩
    focus (intro xx yy h; rfl)
    focus kernel_rfl
    apply chP_pure
    focus
      intro xx w' hk hF
      apply wr_move; exact rfl; with_reducible (conv => enter [6, 3]; whnf)
      apply wr_nil
      exact ⟨rfl, Keeps.refl _ _⟩
    focus (intro xx yy h; rfl)
    focus kernel_rfl
    apply chP_pure
    focus
      intro xx w' hk hF
      apply wr_move; exact rfl; with_reducible (conv => enter [6, 3]; whnf)
      apply wr_nil
      exact ⟨rfl, Keeps.refl _ _⟩
    focus (intro xx yy h; rfl)
    focus kernel_rfl
    apply chP_pure
    focus
      intro xx w' hk hF
      refine wr_indexAddr (i := atK m5 i') rfl rfl rfl hatl ?_
      apply wr_nil
      exact ⟨rfl, Keeps.refl _ _⟩
    focus (intro xx yy h; rfl)
    focus kernel_rfl
    apply chP_pure
    focus
      intro xx w' hk hF
      refine wr_loadElem (G := GK) (n := (gotK m5).length) rfl rfl GK_len rfl ((hkd9 hk).heap hg9 (fun h => h)) hgrd' hatl hgk rfl ?_
      apply wr_nil
      exact ⟨rfl, Keeps.refl _ _⟩
    focus (intro xx yy h; rfl)
    focus kernel_rfl
    apply chP_pure
    focus
      intro xx w' hk hF
      apply wr_move; exact rfl; with_reducible (conv => enter [6, 3]; whnf)
      apply wr_nil
      exact ⟨rfl, Keeps.refl _ _⟩
    focus (intro xx yy h; rfl)
    focus kernel_rfl
    apply chP_pure
    focus
      intro xx w' hk hF
      apply wr_move; exact rfl; with_reducible (conv => enter [6, 3]; whnf)
      apply wr_nil
      exact ⟨rfl, Keeps.refl _ _⟩
    focus (intro xx yy h; rfl)
    focus kernel_rfl
    apply chP_pure
    focus
      intro xx w' hk hF
      refine wr_indexAddr (i := i') rfl rfl rfl hlt6 ?_
      apply wr_nil
      exact ⟨rfl, Keeps.refl _ _⟩
    focus (intro xx yy h; rfl)
    focus kernel_rfl
    apply chP_pure
    focus
      intro xx w' hk hF
      refine wr_loadElem (G := GK) (n := 6) rfl rfl GK_len rfl ((hkd9 hk).heap hc59 (fun h => h)) hrdK hlt6 (k6_at hlt6) rfl ?_
      apply wr_nil
      exact ⟨rfl, Keeps.refl _ _⟩
    focus (intro xx yy h; rfl)
    focus kernel_rfl
    apply chP_pure
    focus
      intro xx w' hk hF
      refine wr_structNe (c := false) rfl rfl rfl key_stood key_guard (key_eqOk (k6 i') (k6 i') _) (by simp) ?_
      apply wr_nil
      exact ⟨rfl, Keeps.refl _ _⟩
    focus (intro xx yy h; rfl)
    focus kernel_rfl
    apply chP_pure
    focus
      intro xx w' hk hF
      apply wr_pick (t := false); (iterate 2 exact rfl); with_reducible (conv => enter [6, 3]; whnf)
      apply wr_nil
      exact ⟨rfl, Keeps.refl _ _⟩
    focus (intro xx yy h; rfl)
    focus kernel_rfl
    refine chP_nil ?_
    intro xx wa hka' hF
    have hka := hkd9 hka'
    (repeat first | (apply wr_move; exact rfl; with_reducible (conv => enter [6, 3]; whnf)) | (apply wr_assign; exact rfl; with_reducible (conv => enter [6, 3]; whnf)) | apply wr_end | apply wc_region | apply wc_skip | (apply wr_add; (iterate 3 exact rfl); exact w_fit (by dsimp only [kIn]; first | done | omega)) | (apply wc_false; exact rfl) | (apply wr_nil; try simp only [thenE, inBlockE, bodyQ]))
    exact ⟨i' + 1, by omega, ⟨by trivial, by omega, hk89.trans hka⟩, rfl, rfl, rfl, rfl, rfl, (by rw [hat]; try rfl), rfl, trivial⟩
end Go.Proofs.YthdjhjeodjgbiaaDoor
