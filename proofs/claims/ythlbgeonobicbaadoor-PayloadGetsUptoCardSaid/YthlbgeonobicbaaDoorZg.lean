/- norialaw02.bend: it gives bytes, as many; noriaref02.kinds, last. -/
import Derived.Test.YthlbgeonobicbaaDoorZe

namespace Go.Proofs.YthlbgeonobicbaaDoor
open Go Go.V Go.RowKit
set_option linter.unusedVariables false
set_option linter.unusedSimpArgs false

set_option maxRecDepth 100000 in
set_option maxHeartbeats 2000000 in
theorem bend_nil (at' by' : Int) (w : World) : Ca Tryd.prog 14 #[S [], .int .i64 at', .int .u8 by'] w fun v w' => v = S [] ∧ w' = w := by
  refine ca_of_body (args := [S [], .int .i64 at', .int .u8 by']) Tryd.func14 rfl (by kernel_rfl) ?_
  (repeat first | (apply wr_move; exact rfl; with_reducible (conv => enter [6, 3]; whnf)) | (apply wr_assign; exact rfl; with_reducible (conv => enter [6, 3]; whnf)) | apply wr_end | apply wc_seq | apply wc_region | (apply wr_streqc; (iterate 3 exact rfl); (first | exact decide_eq_true (by with_reducible assumption) | exact decide_eq_false (by with_reducible assumption) | exact decide_eq_true rfl | exact rfl)) | (apply wc_true; exact rfl) | (apply wc_ret; try simp only [thenE, inBlockE, bodyQ]))
  exact leave1 (v := S []) rfl rfl ⟨rfl, rfl⟩
theorem wr_neg {P : Program} {ops : Array Oper} {Q : Post} {ds : List Deferred} {f : Env} {w : World} {rest : List Oper} {d : Option Nat} {ty : TypeId} {pos : String} {af : Array Edge} {g : Option (Nat × Bool)} {t : TypeId} {x : Operand} {k : IntKind} {a c : Int} (hw : wantedE ops f ⟨d, .unOp .neg t x, ty, pos, af, g⟩ = true) (hx : ev f x = .int k a) (hc : k.wrap (-a) = c) (kk : Wr P ops Q ds rest (setO f d (.int k c)) w) :
    Wr P ops Q ds (⟨d, .unOp .neg t x, ty, pos, af, g⟩ :: rest) f w :=
  wr_v (s := Op.unary .neg (ev f x)) hw rfl (by rw [hx, ← hc]; simp [Op.unary, Op.intArith]) kk
set_option maxRecDepth 100000 in
set_option maxHeartbeats 4000000 in
theorem bend_ca (s : List UInt8) (at' : Int) (by' : UInt8) (hs : s.length ≤ 1000000000) (ha : -9223372036854775808 ≤ at' ∧ at' ≤ 9223372036854775807) (w : World) : Ca Tryd.prog 14 #[S s, .int .i64 at', .int .u8 (by'.toNat : Int)] w fun v w' => (∃ s', v = S s' ∧ s'.length = s.length) ∧ Keeps NoB w w' := by
  by_cases h0 : s = []
  · subst h0
    exact (bend_nil at' _ w).mono fun v w' ⟨h1, h2⟩ => ⟨⟨[], h1, rfl⟩, by rw [h2]; exact Keeps.refl _ _⟩
  have hpos : 0 < s.length := Nat.pos_of_ne_zero fun h => h0 (List.eq_nil_of_length_eq_zero h)
  refine ca_of_body (args := [S s, .int .i64 at', .int .u8 (by'.toNat : Int)]) Tryd.func14 rfl (by kernel_rfl) ?_
  obtain ⟨a, haa⟩ : ∃ a : Nat, (at' < 0 ∧ (a : Int) = -(at' + 1)) ∨ (0 ≤ at' ∧ (a : Int) = at') := by
    by_cases h : at' < 0
    · exact ⟨(-(at' + 1)).toNat, .inl ⟨h, by omega⟩⟩
    · exact ⟨at'.toNat, .inr ⟨by omega, by omega⟩⟩
  rcases haa with ⟨hn, ha'⟩ | ⟨hn, ha'⟩
  all_goals
    (repeat first | (apply wr_move; exact rfl; with_reducible (conv => enter [6, 3]; whnf)) | (apply wr_assign; exact rfl; with_reducible (conv => enter [6, 3]; whnf)) | apply wr_end | apply wc_seq | apply wc_region | apply wc_skip | (apply wr_cmp; (iterate 3 exact rfl); exact cmpT (by dsimp only [cmpP]; first | done | omega)) | (apply wr_cmp; (iterate 3 exact rfl); exact cmpF (by dsimp only [cmpN]; first | done | omega)) | (apply wr_add; (iterate 3 exact rfl); exact w_fit (by dsimp only [kIn]; first | done | omega)) | (apply wr_streqc; (iterate 3 exact rfl); (first | exact decide_eq_true (by with_reducible assumption) | exact decide_eq_false (by with_reducible assumption) | exact decide_eq_true rfl | exact rfl)) | (apply wc_true; exact rfl) | (apply wc_false; exact rfl))
    try (refine wr_neg (c := (a : Int)) rfl rfl (by rw [← ha']; exact w_i64 (by omega)) ?_; (repeat first | (apply wr_move; exact rfl; with_reducible (conv => enter [6, 3]; whnf)) | (apply wr_assign; exact rfl; with_reducible (conv => enter [6, 3]; whnf)) | apply wr_end | apply wc_seq | apply wc_region))
    try rw [← ha']
    refine wr_str2bytes (l := s) rfl rfl (by unfold maxLen; omega) ?_
    intro v w2 hM hk2
    have hM0 := hM
    obtain ⟨hl, gb, cap, cur, fr, rfl, hbg, hgb, hnc, hcm, hcs, htk, hfz⟩ := hM0
    have hj : a % s.length < s.length := Nat.mod_lt _ hpos
    obtain ⟨b, hb⟩ : ∃ b, s[a % s.length]? = some b := ⟨s[a % s.length], by rw [List.getElem?_eq_getElem]⟩
    have hcb : cur[0 + a % s.length * 1]? = some (.int .u8 (b.toNat : Int)) := by
      have h1 : (bytesV s)[a % s.length]? = some (.int .u8 (b.toNat : Int)) := by simp [bytesV, hb]
      rw [← htk, List.getElem?_take_of_lt hj] at h1
      rw [Nat.zero_add, Nat.mul_one]
      simpa using h1
    (repeat first | (apply wr_assign; exact rfl; with_reducible (conv => enter [6, 3]; whnf)) | apply wr_end | apply wc_seq)
    refine wc_drawT (l := _) 14 (fun w' => w'.heap[gb]? = some (.cells cur 5 fr)) (by kernel_rfl) (by kernel_rfl) (by kernel_rfl) (by decide) ?_
    apply chR_step
    focus
      intro w' hS
      apply wr_move; exact rfl
      apply wr_nil
      exact ⟨rfl, rfl⟩
    apply chR_step
    focus
      intro w' hS
      apply wr_move; exact rfl
      apply wr_nil
      exact ⟨rfl, rfl⟩
    apply chR_step
    focus
      intro w' hS
      apply wr_move; exact rfl
      apply wr_nil
      exact ⟨rfl, rfl⟩
    apply chR_step
    focus
      intro w' hS
      apply wr_len_slice; exact rfl; exact rfl
      apply wr_nil
      exact ⟨rfl, rfl⟩
    apply chR_step
    focus
      intro w' hS
      refine wr_remN (n := a) (m := s.length) rfl rfl rfl (by omega) ?_
      apply wr_nil
      exact ⟨rfl, rfl⟩
    apply chR_step
    focus
      intro w' hS
      apply wr_move; exact rfl
      apply wr_nil
      exact ⟨rfl, rfl⟩
    apply chR_step
    focus
      intro w' hS
      apply wr_move; exact rfl
      apply wr_nil
      exact ⟨rfl, rfl⟩
    apply chR_step
    focus
      intro w' hS
      apply wr_move; exact rfl
      apply wr_nil
      exact ⟨rfl, rfl⟩
    apply chR_step
    focus
      intro w' hS
      apply wr_len_slice; exact rfl; exact rfl
      apply wr_nil
      exact ⟨rfl, rfl⟩
    apply chR_step
    focus
      intro w' hS
      refine wr_remN (n := a) (m := s.length) rfl rfl rfl (by omega) ?_
      apply wr_nil
      exact ⟨rfl, rfl⟩
    apply chR_step
    focus
      intro w' hS
      refine wr_indexAddr (i := a % s.length) rfl rfl rfl hj ?_
      apply wr_nil
      exact ⟨rfl, rfl⟩
    apply chR_step
    focus
      intro w' hS
      refine wr_load rfl rfl rfl hS hcb ?_
      apply wr_nil
      exact ⟨rfl, rfl⟩
    apply chR_step
    focus
      intro w' hS
      apply wr_move; exact rfl
      apply wr_nil
      exact ⟨rfl, rfl⟩
    apply chR_step
    focus
      intro w' hS
      refine wr_bits (c := bits .xor .u8 (b.toNat : Int) (by'.toNat : Int)) rfl (.inr (.inr (.inl rfl))) rfl rfl rfl ?_
      apply wr_nil
      exact ⟨rfl, rfl⟩
    refine chR_nil ?_
    refine sf_step hgb ?_
    refine wr_indexAddr (i := a % s.length) rfl rfl rfl hj ?_
    apply wr_nil
    refine sf_step hgb ?_
    obtain ⟨c8, hc8⟩ : ∃ c8 : UInt8, bits .xor .u8 (b.toNat : Int) (by'.toNat : Int) = (c8.toNat : Int) := ⟨b ^^^ by', by
      have h1 := b.toNat_lt
      have h2 := by'.toNat_lt
      rw [u8_xor _ _ (by omega) (by omega) (by omega) (by omega), UInt8.toNat_xor]; rfl⟩
    rw [hc8]
    refine wr_storeM (base := w.heap.size) (n := s.length) (cap := cap) rfl rfl rfl rfl (hM.keep (Keeps.refl NoB w2).drew (fun b hb h => h)) (by omega) ?_
    intro w3 hM3 hk3
    apply wr_nil
    refine sf_nil ?_
    have hset : (bytesV s).set (0 + a % s.length * 1) (.int .u8 (c8.toNat : Int)) = bytesV (s.set (a % s.length) c8) := by simp [bytesV, List.map_set]
    rw [hset] at hM3
    (repeat first | (apply wr_move; exact rfl; with_reducible (conv => enter [6, 3]; whnf)) | apply wc_seq | apply wc_region)
    refine wr_bytes2str (l := s.set (a % s.length) c8) rfl rfl hM3.slR ?_
    (repeat first | (apply wr_assign; exact rfl; with_reducible (conv => enter [6, 3]; whnf)) | apply wr_end | (apply wc_ret; try simp only [thenE, inBlockE, bodyQ]))
    exact leave1 (v := S (s.set (a % s.length) c8)) rfl rfl ⟨⟨_, rfl, by simp⟩, hk2.drew.trans' hk3 (fun j hj h => by omega)⟩
theorem wr_field {P : Program} {ops : Array Oper} {Q : Post} {ds : List Deferred} {f : Env} {w : World} {rest : List Oper} {d : Option Nat} {ty : TypeId} {pos : String} {af : Array Edge} {g : Option (Nat × Bool)} {t i : Nat} {x : Operand} {k m : Nat} {ft : TypeId} {D : TypeDesc} {cs : Array Value} {v : Value} [F : Fld P t i k ft m] [U : Und P ft D]
    (hw : wantedE ops f ⟨d, .field t x i, ty, pos, af, g⟩ = true) (hD : isAggD D = false) (hx : ev f x = .agg cs) (hv : cs[k]? = some v) (kk : Wr P ops Q ds rest (setO f d v) w) : Wr P ops Q ds (⟨d, .field t x i, ty, pos, af, g⟩ :: rest) f w := by
  obtain ⟨fs, fl, h1, h2, h3, h4, _⟩ := F.h
  refine wr_v (s := Instr.field t (ev f x) i) hw rfl ?_ kk
  rw [hx]
  have hu := run_und (w := w) (⟨h1⟩ : Und P t (.struct fs))
  have hp := run_part1 (P := P) (w := w) (t := fl.type) (cs := cs) (o := fl.offset) (D := D) (by rw [h4]; exact U.h) hD (by rw [h3]; exact hv)
  simp only [Instr.field, Sem.run_bind, hu, Result.andThen_ok, h2, asAgg, Sem.run_pure, hp]
def lastW (l : List WF) : WF := l.getLast?.getD ⟨0, 0, 0, []⟩
theorem lastW_s (l : List WF) : lastS [] l = (lastW l).s := by
  unfold lastS lastW; cases l.getLast? <;> rfl
theorem lastW_n (l : List WF) : lastN 0 l = (lastW l).n := by
  unfold lastN lastW; cases l.getLast? <;> rfl
set_option maxRecDepth 100000 in
set_option maxHeartbeats 1000000 in
theorem rKinds_ca (l : List WF) (num kind : Int) (sl : Value) (w : World) (hsl : SlR w 4 sl l.length (FL l)) (hlen : l.length ≤ 1000000000000) :
    Ca Tryd.prog 37 #[sl, .int .i64 num, .int .i64 kind] w fun v w' => v = .bool (kindsB (allF l num) kind) ∧ Keeps NoB w w' := by
  refine ca_of_body (args := [sl, .int .i64 num, .int .i64 kind]) Tryd.func37 rfl (by kernel_rfl) ?_
  (repeat first | (apply wr_move; exact rfl; with_reducible (conv => enter [6, 3]; whnf)) | (apply wr_assign; exact rfl; with_reducible (conv => enter [6, 3]; whnf)) | apply wr_end | apply wc_seq | apply wc_region)
  refine wr_call (vs := [sl, .int .i64 num]) rfl (rall_ca l num sl w hsl hlen) rfl ?_
  rintro v w2 ⟨ho2, hk2⟩
  have hAl : (allF l num).length ≤ l.length := List.length_filter_le _ _
  generalize hA : allF l num = A at ho2 hAl ⊢
  obtain ⟨a, c, rfl, hc, hat⟩ := (SlR.of_own ho2).shape
  (repeat first | (apply wr_assign; exact rfl; with_reducible (conv => enter [6, 3]; whnf)) | apply wr_end | apply wc_seq | apply wc_region | apply wc_block)
  refine wc_loopL (α := Nat) (fun i => [(2, .int .i64 kind), (7, .slice a A.length c), (8, .int .i64 (i : Int))])
    (fun i ds w' => ds = [] ∧ i ≤ A.length ∧ kindsB (A.take i) kind = true ∧ Keeps NoB w2 w') (fun i => A.length - i) 0 ⟨rfl, Nat.zero_le _, rfl, Keeps.refl _ _⟩ ⟨rfl, rfl, rfl, trivial⟩ ?_
  rintro i ds f0 w3 ⟨rfl, hi, hpre, hk3⟩
  by_cases hlt : i < A.length
  · obtain ⟨b, o, rfl, cur, e, fr, hb, hr⟩ := hat (by omega)
    have hb3 := hk3.heap hb (fun h => h)
    obtain ⟨x, hx⟩ : ∃ x, A[i]? = some x := ⟨A[i], by simp [hlt]⟩
    (repeat first | (apply wr_move; exact rfl; with_reducible (conv => enter [6, 3]; whnf)) | apply wr_end | apply wc_seq | apply wc_region | apply wc_skip | apply wc_block | (apply wr_len_slice; iterate 2 exact rfl) | (apply wr_cmp; (iterate 3 exact rfl); exact cmpT (by dsimp only [cmpP]; first | done | omega)) | (apply wc_true; exact rfl))
    refine wr_indexAddr (i := i) rfl rfl rfl hlt ?_
    refine wr_fieldAddr rfl rfl ?_
    refine wr_load (v := .int .i64 x.kind) rfl rfl rfl hb3 (cell_elem (g := WF.cs) (k := 4) (n := A.length) (i := i) (j := 1) WF.cs_len hr hlt hx rfl) ?_
    by_cases he : x.kind = kind
    · (repeat first | (apply wr_move; exact rfl; with_reducible (conv => enter [6, 3]; whnf)) | (apply wr_assign; exact rfl; with_reducible (conv => enter [6, 3]; whnf)) | apply wr_end | apply wc_region | apply wc_skip | (apply wr_cmp; (iterate 3 exact rfl); exact cmpF (by dsimp only [cmpN]; first | done | omega)) | (apply wr_add; (iterate 3 exact rfl); exact w_fit (by dsimp only [kIn]; first | done | omega)) | (apply wc_false; exact rfl))
      exact ⟨i + 1, by omega, ⟨by trivial, hlt, kindsB_take hpre hx he, hk3⟩, rfl, rfl, by simp, trivial⟩
    · (repeat first | (apply wr_move; exact rfl; with_reducible (conv => enter [6, 3]; whnf)) | (apply wr_assign; exact rfl; with_reducible (conv => enter [6, 3]; whnf)) | apply wr_end | apply wc_seq | apply wc_region | (apply wr_cmp; (iterate 3 exact rfl); exact cmpT (by dsimp only [cmpP]; first | done | omega)) | (apply wc_true; exact rfl) | (apply wc_ret; try simp only [thenE, inBlockE, bodyQ]))
      exact leave1 (v := .bool false) rfl rfl ⟨by rw [kindsB_no hx he], hk2.trans hk3⟩
  · have he : i = A.length := by omega
    subst he
    rw [List.take_length] at hpre
    (repeat first | (apply wr_move; exact rfl; with_reducible (conv => enter [6, 3]; whnf)) | (apply wr_assign; exact rfl; with_reducible (conv => enter [6, 3]; whnf)) | apply wr_end | apply wc_seq | apply wc_region | (apply wr_len_slice; iterate 2 exact rfl) | (apply wr_cmp; (iterate 3 exact rfl); exact cmpF (by dsimp only [cmpN]; first | done | omega)) | (apply wc_false; exact rfl) | (apply wc_exit; try simp only [thenE, inBlockE, bodyQ, ↓reduceIte, Nat.reduceEqDiff]) | (apply wc_ret; try simp only [thenE, inBlockE, bodyQ]))
    exact leave1 (v := .bool true) rfl rfl ⟨by rw [hpre], hk2.trans hk3⟩
set_option maxRecDepth 100000 in
set_option maxHeartbeats 1000000 in
theorem rLast_ca (l : List WF) (num : Int) (sl : Value) (w : World) (hsl : SlR w 4 sl l.length (FL l)) (hlen : l.length ≤ 1000000000000) :
    Ca Tryd.prog 38 #[sl, .int .i64 num] w fun v w' => v = .agg (WF.cs (lastW (allF l num))).toArray ∧ Keeps NoB w w' := by
  have hone : ∀ x : WF, ∀ u ∈ WF.cs x, u.oneCell' = true := by
    intro x u hu
    simp [WF.cs] at hu
    rcases hu with rfl | rfl | rfl | rfl <;> rfl
  refine ca_of_body (args := [sl, .int .i64 num]) Tryd.func38 rfl (by kernel_rfl) ?_
  apply wc_seq
  apply wc_region
  refine wr_alloc rfl ?_
  obtain ⟨w1, hw1⟩ : ∃ w1, w1 = w.alloc (.cells (Value.agg #[.int .i64 0, .int .i64 0, .int .u64 0, S []]).cells 88) := ⟨_, rfl⟩
  have hk1 : Keeps NoB w w1 := by rw [hw1]; exact (Keeps.refl NoB w).alloc _
  have hR1 : w1.heap[w.heap.size]? = some (.cells #[.int .i64 0, .int .i64 0, .int .u64 0, S []] 88 (0, 0)) := by rw [hw1]; exact heap_alloc_same _ _
  rw [← hw1]
  clear hw1
  (repeat first | (apply wr_move; exact rfl; with_reducible (conv => enter [6, 3]; whnf)) | apply wr_end | apply wc_seq | apply wc_region)
  refine wr_call (vs := [sl, .int .i64 num]) rfl (rlast_ca l num sl w1 (hsl.keep hk1 (fun _ _ h => h)) hlen) rfl ?_
  rintro v w2 ⟨rfl, hk2⟩
  obtain ⟨ok, hv⟩ : ∃ ok, lastV (lastF l num) = .tuple #[.agg (WF.cs (lastW (allF l num))).toArray, .bool ok] := by
    unfold lastF lastW
    cases (allF l num).getLast? with
    | none => exact ⟨false, rfl⟩
    | some x => exact ⟨true, rfl⟩
  rw [hv]
  generalize lastW (allF l num) = x
  have hR2 := hk2.heap hR1 (fun h => h)
  have hsz := lt_of_heap hR2
  (repeat first | (apply wr_move; exact rfl; with_reducible (conv => enter [6, 3]; whnf)) | (apply wr_alloc; exact rfl) | (apply wr_extract; (iterate 3 exact rfl); with_reducible (conv => enter [6, 3]; whnf)))
  refine wr_storeAll (cs := WF.cs x) rfl rfl rfl (hone x) (heap_alloc_same _ _) rfl rfl ?_
  obtain ⟨w3, h3⟩ : ∃ w', w' = (w2.alloc (.cells (Value.agg #[.int .i64 0, .int .i64 0, .int .u64 0, S []]).cells 88)).putObj w2.heap.size (.cells (WF.cs x).toArray 88 (0, 0)) := ⟨_, rfl⟩
  have hk3 : Keeps NoB w2 w3 := by rw [h3]; exact ((Keeps.refl NoB w2).alloc _).put _ (fun h => by omega)
  have hb3 : w3.heap[w2.heap.size]? = some (.cells (WF.cs x).toArray 88 (0, 0)) := by rw [h3]; exact World.putObj_heap_same (by simp)
  rw [← h3]
  clear h3
  have hR3 := hk3.heap hR2 (fun h => h)
  have hw3 := hk1.trans (hk2.trans hk3)
  (repeat first | (apply wr_assign; exact rfl; with_reducible (conv => enter [6, 3]; whnf)) | apply wr_end | apply wc_seq | apply wc_region)
  refine wr_loadAll (cs := WF.cs x) rfl rfl rfl hb3 rfl ?_
  refine wr_storeAll (cs := WF.cs x) rfl rfl rfl (hone x) hR3 rfl rfl ?_
  (repeat first | apply wr_end | (apply wc_ret; try simp only [thenE, inBlockE, bodyQ]))
  exact leaveN (vs := [.agg (WF.cs x).toArray]) (resv_cells (cs := WF.cs x) rfl rfl (World.putObj_heap_same (lt_of_heap hR3)) rfl resv_nil) ⟨rfl, hw3.put _ (fun h => by omega)⟩
end Go.Proofs.YthlbgeonobicbaaDoor
