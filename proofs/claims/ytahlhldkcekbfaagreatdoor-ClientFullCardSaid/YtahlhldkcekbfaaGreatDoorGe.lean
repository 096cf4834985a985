/- A client in memory: topic, New. -/
import Derived.Test.YtahlhldkcekbfaaGreatDoorGd
import Derived.Test.YtahlhldkcekbfaaGreatDoorVN
namespace Go.Proofs.YtahlhldkcekbfaaGreatDoor
open Go Go.V Go.RowKit
set_option linter.unusedVariables false
set_option linter.unusedSimpArgs false

section ops
variable {P : Program} {ops : Array Oper} {Q : Post} {ds : List Deferred} {f : Env} {w w' : World} {rest : List Oper}
variable {d : Option Nat} {ty : TypeId} {pos : String} {af : Array Edge} {g : Option (Nat × Bool)}
theorem wr_indexArr {t e : TypeId} {z : Value} {size by' len : Nat} {x y : Operand} {b o : Nat} {k : IntKind} {i : Nat} [U : Und P t (.array len e)] [I : Info P e z size by'] (hw : wantedE ops f ⟨d, .indexAddr t x y, ty, pos, af, g⟩ = true) (hx : ev f x = .pointer (some ⟨b, o, none⟩)) (hy : ev f y = .int k (i : Int))
    (hi : i < len) (kk : Wr P ops Q ds rest (setO f d (.pointer (some ⟨b, o + i * size, none⟩))) w) : Wr P ops Q ds (⟨d, .indexAddr t x y, ty, pos, af, g⟩ :: rest) f w := by
  refine wr_v (s := Instr.indexAt t (ev f x) (ev f y)) (v := .pointer (some ⟨b, o + i * size, none⟩)) hw rfl ?_ kk
  rw [hx, hy]
  simp only [Instr.indexAt, asIntOf, Sem.run_bind, Sem.run_pure, Result.andThen_ok, run_und U, Instr.sureAddr]
  rw [if_pos ⟨by omega, by omega⟩]
  simp only [Sem.run_bind, run_sizeOf' I, Result.andThen_ok, Sem.run_pure, Int.toNat_natCast, addr_add]
end ops
/-- Of a type: what is wanted, whether it was asked for, the last nonce. -/
abbrev TPc := SE × Bool × Nat
def GTp (t : TPc) : List Value := GSt t.1 ++ [.bool t.2.1, .int .u64 (t.2.2 : Int)]
theorem GTp_len (t : TPc) : (GTp t).length = 4 := rfl
abbrev CLc := Bool × List TPc
def GCl (c : CLc) : List Value := .bool c.1 :: c.2.flatMap GTp
abbrev CliV (c : CLc) : Value := .agg (GCl c).toArray
def zeroSE : SE := ((false, []), .slice none 0 0)
def zeroT : TPc := (zeroSE, false, 0)
def newC (d : Bool) : CLc := (d, List.replicate 6 zeroT)
/-- One of a type's, in memory. -/
def TpAt (w : World) (t : TPc) : Prop := SlR w 1 t.1.2 t.1.1.2.length (SL t.1.1.2) ∧ t.1.1.2.length ≤ 8796093022000 ∧ t.2.2 ≤ 18446744073709551615
structure CliAt (w : World) (c : CLc) : Prop where
  len : c.2.length = 6
  at' : ∀ t ∈ c.2, TpAt w t
theorem TpAt.keep {w w' : World} {t : TPc} (h : TpAt w t) (k : Keeps NoB w w') : TpAt w' t := ⟨h.1.keep k (fun _ _ h => h), h.2⟩
theorem CliAt.keep {w w' : World} {c : CLc} (h : CliAt w c) (k : Keeps NoB w w') : CliAt w' c := ⟨h.len, fun t ht => (h.at' t ht).keep k⟩
theorem zeroT_at (w : World) : TpAt w zeroT := ⟨⟨by simp [SL, zeroT, zeroSE], none, 0, rfl, Nat.le_refl _, .inl ⟨rfl, fun _ => rfl⟩⟩, by decide, by decide⟩
theorem newC_at (w : World) (d : Bool) : CliAt w (newC d) := ⟨by simp [newC], fun t ht => by
  have := List.eq_of_mem_replicate ht
  subst this
  exact zeroT_at w⟩
theorem GCl_len {c : CLc} (h : c.2.length = 6) : (GCl c).length = 25 := by
  unfold GCl
  rw [List.length_cons, flat_len GTp_len, h]
theorem SE_one {w : World} {t : TPc} (h : TpAt w t) : t.1.2.oneCell' = true := by
  obtain ⟨a, c, e, _⟩ := slr_strs h.1
  rw [e]; rfl
theorem GTp_one {w : World} {t : TPc} (h : TpAt w t) : ∀ u ∈ GTp t, u.oneCell' = true := by
  intro u hu
  simp only [GTp, GSt, List.cons_append, List.nil_append, List.mem_cons, List.not_mem_nil, or_false] at hu
  rcases hu with rfl | rfl | rfl | rfl
  · rfl
  · exact SE_one h
  · rfl
  · rfl
theorem GCl_one {w : World} {c : CLc} (h : CliAt w c) : ∀ u ∈ GCl c, u.oneCell' = true := by
  intro u hu
  simp only [GCl, List.mem_cons, List.mem_flatMap] at hu
  rcases hu with rfl | ⟨t, ht, hu⟩
  · rfl
  · exact GTp_one (h.at' t ht) u hu
/-- A type's cells within the client's. -/
theorem GCl_get {c : CLc} {k j : Nat} {t : TPc} {v : Value} (hk : c.2[k]? = some t) (hv : (GTp t)[j]? = some v) : (GCl c).toArray[1 + k * 4 + j]? = some v := by
  have hj : j < 4 := by rw [← GTp_len t]; exact (List.getElem?_eq_some_iff.1 hv).1
  have h1 := flat_get (g := GTp) GTp_len c.2 k t j hk hj
  rw [hv] at h1
  rw [List.getElem?_toArray]
  unfold GCl
  rw [show 1 + k * 4 + j = (k * 4 + j) + 1 by omega, List.getElem?_cons_succ]
  exact h1
def topicOf (c : CLc) (k : Int) : TPc := if typedB k = true then (c.2[k.toNat]?).getD zeroT else zeroT
theorem topicOf_at {w : World} {c : CLc} (h : CliAt w c) (k : Int) : TpAt w (topicOf c k) := by
  unfold topicOf
  split
  · cases hk : c.2[k.toNat]? with
    | none => exact zeroT_at w
    | some t => exact h.at' t (List.mem_of_getElem? hk)
  · exact zeroT_at w
set_option maxRecDepth 100000 in
set_option maxHeartbeats 2000000 in
theorem newCl_ca (d : Bool) (w : World) : Ca Tryz.prog 10 #[.bool d] w fun v w' => v = CliV (newC d) ∧ Keeps NoB w w' := by
  refine ca_of_body (args := [.bool d]) Tryz.func10 rfl (by kernel_rfl) ?_
  (repeat first | (apply wr_move; exact rfl; with_reducible (conv => enter [6, 3]; whnf)) | apply wr_end | apply wc_seq | apply wc_region | (apply wr_alloc; exact rfl))
  refine wr_build (ps := [(0, .bool d)]) (cs := GCl (newC d)) rfl rfl rfl rfl ?_
  refine wr_storeAll (cs := GCl (newC d)) rfl rfl rfl (GCl_one (newC_at w d)) (heap_alloc_same _ _) rfl rfl ?_
  (repeat first | apply wr_end | (apply wc_ret; try simp only [thenE, inBlockE, bodyQ]))
  exact leaveN (vs := [CliV (newC d)]) (resv_cells (cs := GCl (newC d)) (e := 32) (fr := (0, 0)) rfl rfl (World.putObj_heap_same (by simp)) rfl resv_nil) ⟨rfl, ((Keeps.refl NoB w).alloc _).put _ (fun h => by omega)⟩
set_option maxRecDepth 100000 in
set_option maxHeartbeats 4000000 in
theorem topic_ca {c : CLc} {w : World} (h : CliAt w c) (k : Int) : Ca Tryz.prog 33 #[CliV c, .int .i64 k] w fun v w' => v = .agg (GTp (topicOf c k)).toArray ∧ Keeps NoB w w' := by
  refine ca_of_body (args := [CliV c, .int .i64 k]) Tryz.func33 rfl (by kernel_rfl) ?_
  apply wc_seq
  apply wc_region
  refine wr_box (v := CliV c) rfl rfl ?_
  refine wr_name ?_
  intro w1 hw1
  obtain ⟨b1, hb1⟩ : ∃ b, b = w.heap.size := ⟨_, rfl⟩
  have hk1 : Keeps NoB w w1 := by rw [hw1]; exact (Keeps.refl NoB w).alloc _
  have hc1 : w1.heap[b1]? = some (.cells (GCl c).toArray 32 (0, 0)) := by rw [hw1, hb1]; exact heap_alloc_same _ _
  rw [← hb1]
  clear hw1
  apply wr_alloc
  focus exact rfl
  refine wr_name ?_
  intro w2 hw2
  obtain ⟨b2, hb2⟩ : ∃ b2, b2 = w1.heap.size := ⟨_, rfl⟩
  have hk2 : Keeps NoB w1 w2 := by rw [hw2]; exact (Keeps.refl NoB w1).alloc _
  have hc2 : w2.heap[b2]? = some (.cells (GTp zeroT).toArray 29 (0, 0)) := by rw [hw2, hb2]; exact heap_alloc_same _ _
  rw [← hb2]
  clear hw2
  have hc12 := hk2.heap hc1 (fun h => h)
  have hz1 := hk1.size
  (repeat first | (apply wr_move; exact rfl; with_reducible (conv => enter [6, 3]; whnf)) | apply wr_end | apply wc_seq | apply wc_region)
  refine wr_call (vs := [.int .i64 k]) rfl (typed_ca k w2) rfl ?_
  rintro v w3 ⟨rfl, rfl⟩
  by_cases ht : typedB k = true
  · rw [ht]
    have hk15 : 1 ≤ k ∧ k ≤ 5 := by unfold typedB at ht; simpa using ht
    obtain ⟨n, rfl⟩ := Int.eq_ofNat_of_zero_le (show 0 ≤ k by omega)
    have hn6 : n < 6 := by omega
    obtain ⟨t, htn⟩ : ∃ t, c.2[n]? = some t := ⟨c.2[n]'(by rw [h.len]; omega), by simp [h.len, hn6]⟩
    have hto : topicOf c (n : Int) = t := by unfold topicOf; rw [if_pos ht, Int.toNat_natCast, htn]; rfl
    rw [hto]
    have hta := h.at' t (List.mem_of_getElem? htn)
    (repeat first | (apply wr_move; exact rfl; with_reducible (conv => enter [6, 3]; whnf)) | apply wr_end | apply wc_seq | apply wc_region | apply wc_skip | (apply wr_fieldAddr; iterate 2 exact rfl) | (apply wr_not; iterate 2 exact rfl) | (apply wc_false; exact rfl))
    refine wr_indexArr (i := n) rfl rfl rfl hn6 ?_
    refine wr_loadAgg (cs := GTp t) rfl rfl rfl rfl (fun q u hq => cell_of_heap hc12 (by have := GCl_get htn hq; simpa using this)) ?_
    refine wr_storeAll (cs := GTp t) rfl rfl rfl (GTp_one hta) hc2 rfl rfl ?_
    (repeat first | apply wr_end | (apply wc_ret; try simp only [thenE, inBlockE, bodyQ]))
    exact leaveN (vs := [.agg (GTp t).toArray]) (resv_cells (cs := GTp t) (e := 29) (fr := (0, 0)) rfl rfl (World.putObj_heap_same (lt_of_heap hc2)) rfl resv_nil) ⟨rfl, (hk1.trans hk2).trans' ((Keeps.refl (· = b2) w3).put _ (fun _ => rfl)) (fun i hi e => by omega)⟩
  · have hf : typedB k = false := by simpa using ht
    rw [hf]
    have hto : topicOf c k = zeroT := by unfold topicOf; rw [if_neg ht]
    rw [hto]
    (repeat first | apply wr_end | apply wc_seq | apply wc_region | (apply wr_not; iterate 2 exact rfl) | (apply wc_true; exact rfl))
    refine wr_build (ps := []) (cs := GTp zeroT) rfl rfl rfl rfl ?_
    refine wr_storeAll (cs := GTp zeroT) rfl rfl rfl (GTp_one (zeroT_at w)) hc2 rfl rfl ?_
    (repeat first | apply wr_end | (apply wc_ret; try simp only [thenE, inBlockE, bodyQ]))
    exact leaveN (vs := [.agg (GTp zeroT).toArray]) (resv_cells (cs := GTp zeroT) (e := 29) (fr := (0, 0)) rfl rfl (World.putObj_heap_same (lt_of_heap hc2)) rfl resv_nil) ⟨rfl, (hk1.trans hk2).trans' ((Keeps.refl (· = b2) w3).put _ (fun _ => rfl)) (fun i hi e => by omega)⟩
end Go.Proofs.YtahlhldkcekbfaaGreatDoor
