/- AcksPlays: the law. -/
import Derived.Test.YtjaojihogmnjhaaGreatDoorJi
namespace Go.Proofs.YtjaojihogmnjhaaGreatDoor
open Go Go.V Go.RowKit
set_option linter.unusedVariables false
set_option linter.unusedSimpArgs false

/- The head: $1 after New. -/
/- A set of a few: $1 slice, $2 bytes, $3 world, $4 stem, $5 SlR, $6 bytes small, $7 how many. -/
theorem wrap_nat (z : Int) : ∃ u : Nat, IntKind.u64.wrap z = (u : Int) ∧ u < 18446744073709551616 := ⟨(IntKind.u64.wrap z).toNat, by rw [IntKind.wrap_u64]; omega, by rw [IntKind.wrap_u64]; omega⟩
/- A field of both: $1 the value, $2 $3 the blocks' facts, $4 $5 the cells. -/
theorem B.toD {D : Nat → Prop} {k B i : Nat} {a b : World} (h : Keeps (V.B.monB D (some k) B i) a b) (hb : (Nat.beq i k || bef B k i) = false) : Keeps D a b := by
  unfold V.B.monB at h
  dsimp only at h
  rw [hb] at h
  exact h
theorem outs_len {w : World} {base ab mb : Nat} {A : List (KY × ND)} (h : AcksAt w base ab mb A) (k : KY) (who : List Int) : (outsP (getL (PL A) k) k who).length ≤ 100 := by
  cases hg : getL (PL A) k with
  | none => exact Nat.zero_le _
  | some p =>
    obtain ⟨z, hz, e⟩ := List.mem_map.1 (getL_mem hg)
    have hf := (h.note z hz).few
    have hp : z.2.p = p := congrArg Prod.snd e
    rw [hp] at hf
    unfold outsP readyO
    dsimp only
    have := outB_le k p.bad p.bad.length
    rw [List.length_append]
    split
    · rw [List.length_singleton]; omega
    · rw [List.length_nil]; omega
theorem subDropA (w : World) (id : Int) (L : List (KY × ND)) : Sub w L (L.map (dropN id)) := fun x hx q hq => by
  obtain ⟨y, hy, rfl⟩ := List.mem_map.1 hx
  exact .inl ⟨y, hy, hq⟩
theorem subDelA (w : World) (k : KY) (L : List (KY × ND)) : Sub w L (delL L k) := fun x hx q hq => .inl ⟨x, (List.mem_filter.1 hx).1, hq⟩
def zT (id : Int) (p : PN) : PN := { p with T := setT p.T id 0 }
theorem getL_mapv {β : Type} (g : β → β) (L : List (KY × β)) (x : KY) : getL (L.map fun y => (y.1, g y.2)) x = (getL L x).map g := by
  unfold getL
  rw [List.find?_map]
  simp [Function.comp_def]
theorem PL_dropA (id : Int) (L : List (KY × ND)) : PL (L.map (dropN id)) = (PL L).map fun x => (x.1, zT id x.2) := by
  unfold PL
  rw [List.map_map, List.map_map]
  rfl
theorem RL_dropA (id : Int) (L : List RN) : RL (L.map (dR id)) = (RL L).map fun x => (x.1, zT id x.2) := by
  unfold RL
  rw [List.map_map, List.map_map]
  rfl
theorem zT_id {id : Int} {p : PN} (h : p.T id = 0) : zT id p = p := by
  unfold zT
  have : setT p.T id 0 = p.T := by
    funext x
    unfold setT
    split
    · rename_i e; rw [e, h]
    · rfl
  rw [this]
theorem getL_delA {β : Type} (L : List (KY × β)) (k x : KY) : getL (delL L k) x = if x = k then none else getL L x := by
  unfold delL getL
  induction L with
  | nil => simp
  | cons p M ih =>
    by_cases hp : p.1 = k
    · rw [List.filter_cons_of_neg (by simp [hp]), ih, List.find?_cons]
      by_cases hx : x = k
      · simp [hx]
      · have : ¬ p.1 = x := fun e => hx (by rw [← e, hp])
        simp [hx, this]
    · rw [List.filter_cons_of_pos (by simp [hp]), List.find?_cons, List.find?_cons]
      by_cases hpx : p.1 = x
      · have : ¬ x = k := fun e => hp (by rw [hpx, e])
        simp [hpx, this]
      · simp only [hpx, decide_false]
        exact ih
theorem getPL_delA (L : List (KY × ND)) (k x : KY) : getL (PL (delL L k)) x = if x = k then none else getL (PL L) x := by
  rw [getPL, getL_delA, getPL]
  split <;> rfl
theorem afterP_same {L M : List (KY × PN)} (h : ∀ x, getL L x = getL M x) (k : KY) (who : List Int) (x : KY) : getL (afterP L k who) x = getL (afterP M k who) x := by
  unfold afterP
  rw [h k]
  cases getL M k with
  | none => exact h x
  | some p => dsimp only; rw [getL_put, getL_put, h x]
theorem afterP_keys {L : List (KY × PN)} {k : KY} {who : List Int} : ∀ x ∈ (afterP L k who).map (·.1), x ∈ L.map (·.1) := by
  intro x hx
  unfold afterP at hx
  cases hg : getL L k with
  | none => rw [hg] at hx; exact hx
  | some p =>
    rw [hg] at hx
    dsimp only at hx
    rw [putL_keys _ (getL_isSome.2 (by rw [hg]; rfl))] at hx
    exact hx
theorem putL_sub {β : Type} {L : List (KY × β)} {k : KY} {y : β} : ∀ x ∈ (putL L k y).map (·.1), x = k ∨ x ∈ L.map (·.1) := by
  intro x hx
  obtain ⟨z, hz, rfl⟩ := List.mem_map.1 hx
  rcases mem_putL hz with rfl | ⟨h, _⟩
  · exact .inl rfl
  · exact .inr (List.mem_map.2 ⟨z, h, rfl⟩)
/-- Who wants it: a list of ids, in what was given, or in a row of the call's own. -/
structure WhoAt (base : Nat) (w : World) (v : Value) (l : List Int) : Prop where
  row : SlR w 1 v l.length (l.map (Value.int .i64))
  len : l.length ≤ 9223372036854775807
  blk : 0 < l.length → ∀ q, v.ownBlock = some q → q < w.heap.size ∧ (q < base ∨ ∃ cur fr, w.heap[q]? = some (.cells cur 3 fr))
theorem WhoAt.keep {base : Nat} {w w' : World} {v : Value} {l : List Int} {D : Nat → Prop} (h : WhoAt base w v l) (k : Keeps D w w') (hD : ∀ q, q < base ∨ (∃ cur fr, w.heap[q]? = some (.cells cur 3 fr)) → ¬ D q) : WhoAt base w' v l := by
  refine ⟨slR_keep0 h.row k fun hp q hq => hD q (h.blk hp q hq).2, h.len, fun hp q hq => ?_⟩
  obtain ⟨h1, h2⟩ := h.blk hp q hq
  refine ⟨Nat.lt_of_lt_of_le h1 k.size, ?_⟩
  rcases h2 with h2 | ⟨cur, fr, h2⟩
  · exact .inl h2
  · exact .inr ⟨cur, fr, k.heap h2 (hD q (.inr ⟨cur, fr, h2⟩))⟩
theorem WhoAt.keepN {base : Nat} {w w' : World} {v : Value} {l : List Int} (h : WhoAt base w v l) (k : Keeps NoB w w') : WhoAt base w' v l := h.keep k fun _ _ h => h
theorem WhoAt.keepA {base ab mb : Nat} {w w' : World} {v : Value} {l : List Int} {A : List (KY × ND)} (h : WhoAt base w v l) (hA : AcksAt w base ab mb A) (hv : Above base mb A) (k : Keeps (aD mb A) w w') : WhoAt base w' v l := h.keep k fun q hq e => by
  rcases hq with hq | ⟨cur, fr, hq⟩
  · have := hv q e; omega
  · exact hA.free hq (by decide) (by decide) e
theorem WhoAt.keepR {base : Nat} {w w' : World} {v : Value} {l : List Int} (h : WhoAt base w v l) (k : Keeps (RD base w) w w') : WhoAt base w' v l := h.keep k fun q hq e => by
  obtain ⟨hb, c, T, fr, hc, ht⟩ := e
  rcases hq with hq | ⟨cur, fr', hq⟩
  · omega
  · rw [hq] at hc
    cases hc
    revert ht
    decide
structure PlA (w0 : World) (ab mb xb i : Nat) (A : List (KY × ND)) (R : List RN) (w' : World) : Prop where
  acks : AcksAt w' w0.heap.size ab mb A
  abv : Above w0.heap.size mb A
  ref : RefA w' w0.heap.size xb R
  eq : ∀ x, getL (RL R) x = getL (PL A) x
  len : R.length ≤ i
  uni : ∀ k ∈ A.map (·.1), k ∈ keysAll
  tz : ∀ x p, getL (RL R) x = some p → ∀ id, ¬ idOk id → p.T id = 0
  k : Keeps NoB w0 w'
theorem PlA.keepN {w0 w' w'' : World} {ab mb xb i : Nat} {A : List (KY × ND)} {R : List RN} (h : PlA w0 ab mb xb i A R w') (k : Keeps NoB w' w'') : PlA w0 ab mb xb i A R w'' :=
  ⟨h.acks.keep k, h.abv, h.ref.keepN k, h.eq, h.len, h.uni, h.tz, h.k.trans k⟩
theorem PlA.tzn {w0 w' : World} {ab mb xb i : Nat} {A : List (KY × ND)} {R : List RN} (h : PlA w0 ab mb xb i A R w') : ∀ n ∈ R, ∀ id, ¬ idOk id → n.p.T id = 0 := fun n hn => by
  obtain ⟨j, hj⟩ := List.getElem?_of_mem hn
  exact h.tz n.k n.p (getL_yes h.ref.sort hj)
theorem PlA.few {w0 w' : World} {ab mb xb i : Nat} {A : List (KY × ND)} {R : List RN} (h : PlA w0 ab mb xb i A R w') : A.length ≤ 12 := by
  have h1 := nodup_sub keysAll (A.map (·.1)) h.acks.nodup h.uni
  rw [List.length_map] at h1
  exact h1
theorem PlA.next {w0 w8 w9 w10 : World} {ab mb xb i : Nat} {A A' : List (KY × ND)} {R R' : List RN} (h : PlA w0 ab mb xb i A R w8) (hA9 : AcksAt w9 w0.heap.size ab mb A') (hs : Sub w8 A A') (hk9 : Keeps (aD mb A) w8 w9) (hR10 : RefA w10 w0.heap.size xb R') (hk10 : Keeps (RD w0.heap.size w9) w9 w10)
    (heq : ∀ x, getL (RL R') x = getL (PL A') x) (hlen : R'.length ≤ i + 1) (huni : ∀ k ∈ A'.map (·.1), k ∈ keysAll) (htz : ∀ x p, getL (RL R') x = some p → ∀ id, ¬ idOk id → p.T id = 0) : PlA w0 ab mb xb (i + 1) A' R' w10 :=
  ⟨hA9.keepR hk10, h.abv.sub hs h.k.size, hR10, heq, hlen, huni, htz, (h.abv.keeps h.k hk9).trans' hk10 (fun q hq e => by have := e.1; omega)⟩
theorem key_RD {base : Nat} {w w' : World} {b : Nat} {c : Array Value} {T : TypeId} {fr : Nat × Nat} (h : w.heap[b]? = some (.cells c T fr)) (k : Keeps (RD base w) w w') (h1 : T ≠ RAT) (h2 : T ≠ NTT) (h3 : T ≠ RBT) : w'.heap[b]? = some (.cells c T fr) := k.heap h fun e => by
  obtain ⟨_, c9, T9, fr9, hc9, ht9⟩ := e
  rw [h] at hc9
  cases hc9
  rcases ht9 with e | e | e
  · exact h1 e
  · exact h2 e
  · exact h3 e
set_option maxRecDepth 100000 in
set_option maxHeartbeats 32000000 in
theorem plays_law (dl : List DE) (v0 : Value) (w : World) (hv : SlR w 8 v0 dl.length (dl.flatMap GDe)) (hd : ∀ x ∈ dl, deOk w x) :
    Ca Tryz.prog 3 #[v0] w fun v w' => v = .bool true ∧ Keeps NoB w w' := by
  obtain ⟨va, vc, rfl, hvl, hvm⟩ := hv.shape
  refine ca_of_body (args := [.slice va dl.length vc]) Tryz.func3 rfl (by kernel_rfl) ?_
  (repeat first | (apply wr_assign; exact rfl; with_reducible (conv => enter [6, 3]; whnf)) | apply wr_end | apply wc_seq | apply wc_region)
  refine wr_call (vs := []) rfl (examples_ca w) rfl ?_
  rintro v w0 ⟨rfl, hk0⟩
  (repeat first | (apply wr_move; exact rfl; with_reducible (conv => enter [6, 3]; whnf)) | (apply wr_assign; exact rfl; with_reducible (conv => enter [6, 3]; whnf)) | apply wr_end | apply wc_seq | apply wc_region | apply wc_skip | (apply wr_not; iterate 2 exact rfl) | (apply wc_false; exact rfl))
  refine wr_call (vs := []) rfl (new_ca w0) rfl ?_
  rintro v w1 ⟨ab, mb, rfl, h1, hk1, hmb, hab⟩
  have hz0 := hk0.size
  have hz1 := hk1.size
  (repeat first | (apply wr_assign; exact rfl; with_reducible (conv => enter [6, 3]; whnf)) | apply wr_end | apply wc_seq | apply wc_region)
  refine wr_build (ps := []) (cs := [.slice none 0 0]) rfl rfl rfl rfl ?_
  refine wr_box (v := .agg #[.slice none 0 0]) rfl rfl ?_
  refine wr_name ?_
  intro w2 hww2
  obtain ⟨bw2, hbw2⟩ : ∃ b, b = (w1).heap.size := ⟨_, rfl⟩
  have hkw2 : Keeps NoB w1 w2 := by rw [hww2]; exact (Keeps.refl NoB w1).alloc _
  have hcw2 : (w2).heap[bw2]? = some (.cells ([.slice none 0 0]).toArray 29 (0, 0)) := by rw [hww2, hbw2]; exact heap_alloc_same _ _
  rw [← hbw2]
  clear hww2
  have hP2 : PlA w0 ab mb bw2 0 [] [] w2 := ⟨h1.keep hkw2, Above.nil hmb, ⟨⟨_, hcw2, by omega, OwnS.nil _ _ _ _⟩, fun n hn => (by cases hn), List.Pairwise.nil, fun n hn => (by cases hn), fun n hn => (by cases hn), List.Pairwise.nil, Nat.zero_le _, fun n hn => (by cases hn)⟩, fun x => rfl, Nat.le_refl _, fun k hk => (by cases hk), fun x p hp => (by cases hp), hk1.trans hkw2⟩
  (repeat first | (apply wr_move; exact rfl; with_reducible (conv => enter [6, 3]; whnf)) | (apply wr_assign; exact rfl; with_reducible (conv => enter [6, 3]; whnf)) | apply wr_end | apply wc_seq | apply wc_region)
  refine wr_ptrNil rfl rfl ?_
  (repeat first | (apply wr_assign; exact rfl; with_reducible (conv => enter [6, 3]; whnf)) | apply wr_end | apply wc_seq | apply wc_region | apply wc_skip | apply wc_block | (apply wc_false; exact rfl))
  refine wc_loopL (α := Nat × List (KY × ND) × List RN) (fun s => [(0, .slice va dl.length vc), (3, .bool true), (4, .pointer (some ⟨ab, 0, none⟩)), (5, .pointer (some ⟨bw2, 0, none⟩)), (6, .int .i64 (s.1 : Int))])
    (fun s ds w' => ds = [] ∧ s.1 ≤ 60 ∧ PlA w0 ab mb bw2 s.1 s.2.1 s.2.2 w') (fun s => 60 - s.1) (0, [], [])
    ⟨rfl, by decide, hP2⟩ ⟨rfl, rfl, rfl, rfl, rfl, trivial⟩ ?_
  rintro ⟨i, A, R⟩ ds f0 w4 ⟨rfl, hi, hP4⟩
  dsimp only at hi hP4 ⊢
  by_cases hgo : i < dl.length ∧ i < 60
  rotate_left
  · have hex : ¬ i < dl.length ∨ (i < dl.length ∧ ¬ i < 60) := by omega
    rcases hex with hex | ⟨hex1, hex2⟩
    all_goals
      (repeat first | (apply wr_move; exact rfl; with_reducible (conv => enter [6, 3]; whnf)) | (apply wr_assign; exact rfl; with_reducible (conv => enter [6, 3]; whnf)) | apply wr_end | apply wc_seq | apply wc_region | (apply wr_len_slice; iterate 2 exact rfl) | (apply wr_cmp; (iterate 3 exact rfl); exact cmpT (by dsimp only [cmpP]; first | done | omega)) | (apply wr_cmp; (iterate 3 exact rfl); exact cmpF (by dsimp only [cmpN]; first | done | omega)) | (apply wr_pick (t := true); (iterate 2 exact rfl); with_reducible (conv => enter [6, 3]; whnf)) | (apply wr_pick (t := false); (iterate 2 exact rfl); with_reducible (conv => enter [6, 3]; whnf)) | (apply wc_false; exact rfl) | (apply wc_exit; try simp only [thenE, inBlockE, bodyQ, ↓reduceIte, Nat.reduceEqDiff]) | (apply wc_ret; try simp only [thenE, inBlockE, bodyQ]) | (apply wr_skip; exact rfl))
      exact leave1 (v := .bool true) rfl rfl ⟨rfl, hk0.trans hP4.k⟩
  obtain ⟨hlt, hlt60⟩ := hgo
  obtain ⟨d, hdx⟩ : ∃ x, dl[i]? = some x := ⟨dl[i], by simp [hlt]⟩
  have hdo := hd d (List.mem_of_getElem? hdx)
  obtain ⟨vb, vo, rfl, cur, e, fr, hvb, hvr⟩ := hvm (by omega)
  have hK4 := hk0.trans hP4.k
  have hvb4 := hK4.heap hvb (fun h => h)
  (repeat first | (apply wr_move; exact rfl; with_reducible (conv => enter [6, 3]; whnf)) | apply wr_end | apply wc_seq | apply wc_region | apply wc_skip | apply wc_block | (apply wr_len_slice; iterate 2 exact rfl) | (apply wr_cmp; (iterate 3 exact rfl); exact cmpT (by dsimp only [cmpP]; first | done | omega)) | (apply wr_pick (t := true); (iterate 2 exact rfl); with_reducible (conv => enter [6, 3]; whnf)) | (apply wc_true; exact rfl))
  refine wr_indexAddr (i := i) rfl rfl rfl hlt ?_
  refine wr_loadElem (G := GDe) (n := dl.length) (i := i) (l := dl) rfl rfl GDe_len rfl hvb4 hvr hlt hdx rfl ?_
  obtain ⟨lsa, lsc, hlve, _, _⟩ := hdo.wl.shape
  (repeat first | (apply wr_alloc; exact rfl))
  refine wr_storeAll (cs := (GDe d)) rfl rfl rfl (by intro u hu; simp only [GDe, List.mem_cons, List.not_mem_nil, or_false] at hu; rcases hu with rfl | rfl | rfl | rfl | rfl | rfl | rfl | rfl; rfl; rfl; rfl; rfl; rfl; rfl; (rw [hlve]; rfl); rfl) (heap_alloc_same _ _) rfl rfl ?_
  refine wr_name ?_
  intro w5 hww5
  obtain ⟨bw5, hbw5⟩ : ∃ b, b = (w4).heap.size := ⟨_, rfl⟩
  have hkw5 : Keeps NoB w4 w5 := by rw [hww5]; exact ((Keeps.refl NoB w4).alloc _).put _ (fun h => by omega)
  have hcw5 : (w5).heap[bw5]? = some (.cells ((GDe d)).toArray 33 (0, 0)) := by rw [hww5, hbw5]; exact World.putObj_heap_same (by simp)
  rw [← hbw5]
  clear hww5
  have hP5 := hP4.keepN hkw5
  have hK5 := hK4.trans hkw5
  have hz5 := hkw5.size
  have hwho5 : WhoAt w0.heap.size w5 d.wv d.wl := ⟨hdo.wl.keep hK5 (fun _ _ h => h), hdo.wn, fun hp q hq => by
    obtain ⟨_, a9, c9, e9, _, h9⟩ := hdo.wl
    rw [e9] at hq
    rcases h9 with ⟨h9, _⟩ | ⟨b9, o9, cur9, te9, fr9, rfl, hb9, _⟩
    · omega
    · have hq2 : b9 = q := by cases hq; rfl
      subst hq2
      have hl9 := lt_of_heap hb9
      exact ⟨by have := hK5.size; omega, .inl (by omega)⟩⟩
  apply wr_end
  apply wc_seq
  apply wc_region
  refine wr_fieldAddr rfl rfl ?_
  refine wr_load (v := .int .i64 d.id) rfl rfl rfl hcw5 rfl ?_
  apply wr_assign; exact rfl; with_reducible (conv => enter [6, 3]; whnf)
  apply wr_end
  apply wc_seq
  apply wc_region
  refine wr_fieldAddr rfl rfl ?_
  refine wr_load (v := .int .u64 ((d.seq : Nat) : Int)) rfl rfl rfl hcw5 rfl ?_
  apply wr_assign; exact rfl; with_reducible (conv => enter [6, 3]; whnf)
  apply wr_end
  apply wc_seq
  apply wc_region
  refine wr_fieldAddr rfl rfl ?_
  refine wr_load (v := d.wv) rfl rfl rfl hcw5 rfl ?_
  apply wr_assign; exact rfl; with_reducible (conv => enter [6, 3]; whnf)
  apply wr_end
  apply wc_seq
  refine wc_cut (fun ds' f' w' => ds' = [] ∧ ∃ (id : Int) (seq : Nat) (wl : List Int) (wv : Value), (-9223372036854775808 ≤ id ∧ id ≤ 9223372036854775807) ∧ seq < 18446744073709551616 ∧ WhoAt w0.heap.size w' wv wl ∧ Keeps NoB w5 w' ∧ Slots f' [(0, .slice (some ⟨vb, vo, none⟩) dl.length vc), (3, .bool true), (4, .pointer (some ⟨ab, 0, none⟩)), (5, .pointer (some ⟨bw2, 0, none⟩)), (6, .int .i64 (i : Int)), (7, .pointer (some ⟨bw5, 0, none⟩)), (8, .int .i64 id), (9, .int .u64 (seq : Int)), (10, wv)]) ?_ ?_
  · apply wc_seq
    apply wc_region
    refine wr_fieldAddr rfl rfl ?_
    cases hnr : d.near
    · refine wr_load (v := .bool false) rfl rfl rfl hcw5 (by simp [GDe, hnr]) ?_
      (repeat first | apply wr_end | apply wc_skip | (apply wc_false; exact rfl))
      exact ⟨by trivial, d.id, d.seq, d.wl, d.wv, hdo.id, hdo.seq, hwho5, Keeps.refl _ _, rfl, rfl, rfl, rfl, rfl, rfl, rfl, rfl, rfl, trivial⟩
    · refine wr_load (v := .bool true) rfl rfl rfl hcw5 (by simp [GDe, hnr]) ?_
      obtain ⟨u, hu, hub⟩ := wrap_nat d.id
      (repeat first | (apply wr_move; exact rfl; with_reducible (conv => enter [6, 3]; whnf)) | apply wr_end | apply wc_seq | apply wc_region | (apply wr_conv; (iterate 2 exact rfl); (first | exact w_fit (by dsimp only [kIn]; first | done | omega) | with_reducible assumption | rfl)) | (apply wc_true; exact rfl))
      refine wr_remN (n := u) (m := 4) rfl rfl rfl (by decide) ?_
      have hm4 : u % 4 < 4 := Nat.mod_lt _ (by decide)
      generalize u % 4 = r at hm4
      (repeat first | (apply wr_move; exact rfl; with_reducible (conv => enter [6, 3]; whnf)) | (apply wr_assign; exact rfl; with_reducible (conv => enter [6, 3]; whnf)) | apply wr_end | apply wc_seq | apply wc_region | (apply wr_add; (iterate 3 exact rfl); exact w_fit (by dsimp only [kIn]; first | done | omega)) | (apply wr_conv; (iterate 2 exact rfl); exact w_fit (by dsimp only [kIn]; first | done | omega)))
      refine wr_remN (n := d.seq) (m := 20) rfl rfl rfl (by decide) ?_
      have hm20 : d.seq % 20 < 20 := Nat.mod_lt _ (by decide)
      generalize d.seq % 20 = r2 at hm20
      (repeat first | (apply wr_assign; exact rfl; with_reducible (conv => enter [6, 3]; whnf)) | apply wr_end | apply wc_seq | apply wc_region | apply wc_block)
      refine wc_loopL (α := Nat × List Int × Value) (fun p => [(0, .slice (some ⟨vb, vo, none⟩) dl.length vc), (3, .bool true), (4, .pointer (some ⟨ab, 0, none⟩)), (5, .pointer (some ⟨bw2, 0, none⟩)), (6, .int .i64 (i : Int)), (7, .pointer (some ⟨bw5, 0, none⟩)), (8, .int .i64 (1 + (r : Int))), (9, .int .u64 (r2 : Int)), (10, p.2.2), (11, .int .i64 (p.1 : Int))])
        (fun p ds w' => ds = [] ∧ 1 ≤ p.1 ∧ p.1 ≤ 5 ∧ p.2.1.length < p.1 ∧ w'.ownsRow w5.heap.size 3 1 p.2.2 p.2.1.length (p.2.1.map (Value.int .i64)) ∧ Keeps NoB w5 w') (fun p => 5 - p.1) (1, [], .slice none 0 0)
        ⟨rfl, by decide, by decide, by decide, ⟨rfl, .inl ⟨rfl, rfl⟩⟩, Keeps.refl _ _⟩ ⟨rfl, rfl, rfl, rfl, rfl, rfl, rfl, rfl, rfl, rfl, trivial⟩ ?_
      rintro ⟨k, al, av⟩ ds f1 w6 ⟨rfl, hk1', hk5', hal, ho6, hk56⟩
      dsimp only at hk1' hk5' hal ho6 ⊢
      have hcd6 := hk56.heap hcw5 (fun h => h)
      by_cases hk4 : k ≤ 4
      · by_cases hbit : d.name / 2 ^ k % 2 = 1
        · (repeat first | (apply wr_move; exact rfl; with_reducible (conv => enter [6, 3]; whnf)) | apply wr_end | apply wc_seq | apply wc_region | apply wc_skip | apply wc_block | (apply wr_fieldAddr; iterate 2 exact rfl) | (apply wr_load; (iterate 3 exact rfl); (focus repeat first | with_reducible assumption | exact heap_alloc_same _ _ | exact World.putObj_heap_same (by first | omega | (simp only [World.size_alloc, World.putObj_size, ne_eq]; omega)) | ((first | refine hAl ?_ ?_ | refine hPu ?_ ?_); focus first | omega | (simp only [World.size_alloc, World.putObj_size, ne_eq]; omega))); exact rfl; conv => enter [6, 3]; whnf) | (apply wr_cmp; (iterate 3 exact rfl); exact cmpT (by dsimp only [cmpP]; first | done | omega)) | (apply wc_true; exact rfl))
          refine wr_shrN (n := d.name) k rfl rfl rfl (by show k ≤ 8; omega) ?_
          refine wr_remN (n := d.name / 2 ^ k) (m := 2) rfl rfl rfl (by decide) ?_
          rw [hbit]
          (repeat first | (apply wr_move; exact rfl; with_reducible (conv => enter [6, 3]; whnf)) | apply wr_end | apply wc_region | (apply wr_cmp; (iterate 3 exact rfl); exact cmpT (by dsimp only [cmpP]; first | done | omega)) | (apply wc_true; exact rfl))
          refine wr_buildSlice (vs := [.int .i64 (k : Int)]) rfl rfl (by intro v hv; simp at hv; subst hv; rfl) rfl (by decide) (by decide) (by decide) ?_
          refine wr_append (v := av) (n := al.length) (m := 1) (news := [.int .i64 (k : Int)]) rfl rfl (ho6.alloc _) rfl (heap_alloc_same _ _) rfl (by intro u hu; simp at hu; subst hu; rfl) rfl (by decide) (by omega) (by omega) (by have := hk56.size; simp; omega) ?_
          intro av' w7 ho7 hk7 _
          have hkal : Keeps NoB w6 (w6.alloc (.cells (List.flatMap (fun v => v.cells.toList) [Value.int .i64 (k : Int)]).toArray 3)) := (Keeps.refl NoB w6).alloc _
          (repeat first | (apply wr_move; exact rfl; with_reducible (conv => enter [6, 3]; whnf)) | (apply wr_assign; exact rfl; with_reducible (conv => enter [6, 3]; whnf)) | apply wr_end | apply wc_region | (apply wr_add; (iterate 3 exact rfl); exact w_fit (by dsimp only [kIn]; first | done | omega)) | (apply wr_nil; try simp only [thenE, inBlockE, bodyQ]))
          refine ⟨(k + 1, al ++ [(k : Int)], av'), by dsimp only; omega, ⟨by trivial, by dsimp only; omega, by dsimp only; omega, by dsimp only; rw [List.length_append, List.length_singleton]; omega, ?_, ?_⟩, rfl, rfl, rfl, rfl, rfl, rfl, rfl, rfl, rfl, rfl, trivial⟩
          · dsimp only
            rw [List.length_append, List.map_append]
            exact ho7
          · exact (hk56.trans hkal).trans' hk7 (fun q hq e => by have := (ho6.lt q e).1; omega)
        · have hbit0 : d.name / 2 ^ k % 2 = 0 := by omega
          (repeat first | (apply wr_move; exact rfl; with_reducible (conv => enter [6, 3]; whnf)) | apply wr_end | apply wc_seq | apply wc_region | apply wc_skip | apply wc_block | (apply wr_fieldAddr; iterate 2 exact rfl) | (apply wr_load; (iterate 3 exact rfl); (focus repeat first | with_reducible assumption | exact heap_alloc_same _ _ | exact World.putObj_heap_same (by first | omega | (simp only [World.size_alloc, World.putObj_size, ne_eq]; omega)) | ((first | refine hAl ?_ ?_ | refine hPu ?_ ?_); focus first | omega | (simp only [World.size_alloc, World.putObj_size, ne_eq]; omega))); exact rfl; conv => enter [6, 3]; whnf) | (apply wr_cmp; (iterate 3 exact rfl); exact cmpT (by dsimp only [cmpP]; first | done | omega)) | (apply wc_true; exact rfl))
          refine wr_shrN (n := d.name) k rfl rfl rfl (by show k ≤ 8; omega) ?_
          refine wr_remN (n := d.name / 2 ^ k) (m := 2) rfl rfl rfl (by decide) ?_
          rw [hbit0]
          (repeat first | (apply wr_move; exact rfl; with_reducible (conv => enter [6, 3]; whnf)) | (apply wr_assign; exact rfl; with_reducible (conv => enter [6, 3]; whnf)) | apply wr_end | apply wc_region | apply wc_skip | (apply wr_cmp; (iterate 3 exact rfl); exact cmpF (by dsimp only [cmpN]; first | done | omega)) | (apply wr_add; (iterate 3 exact rfl); exact w_fit (by dsimp only [kIn]; first | done | omega)) | (apply wc_false; exact rfl))
          exact ⟨(k + 1, al, av), by dsimp only; omega, ⟨by trivial, by dsimp only; omega, by dsimp only; omega, by dsimp only; omega, ho6, hk56⟩, rfl, rfl, rfl, rfl, rfl, rfl, rfl, rfl, rfl, rfl, trivial⟩
      (repeat first | (apply wr_move; exact rfl; with_reducible (conv => enter [6, 3]; whnf)) | apply wr_end | apply wc_seq | apply wc_region | (apply wr_cmp; (iterate 3 exact rfl); exact cmpF (by dsimp only [cmpN]; first | done | omega)) | (apply wc_false; exact rfl) | (apply wc_exit; try simp only [thenE, inBlockE, bodyQ, ↓reduceIte, Nat.reduceEqDiff]))
      refine ⟨by trivial, 1 + (r : Int), r2, al, av, by omega, by omega, ⟨SlR.of_own ho6, by omega, fun hp q hq => ?_⟩, hk56, rfl, rfl, rfl, rfl, rfl, rfl, rfl, rfl, rfl, trivial⟩
      obtain ⟨_, h9, c9, hc9⟩ := (OwnS.of_own ho6).lt q hq
      exact ⟨h9, .inr ⟨c9, _, hc9⟩⟩
  rintro ds' f' w6 ⟨rfl, id, seq, wl, wv, hid, hseq, hwho6, hk56, hs⟩
  rw [← setL_self f' _ hs.all]
  clear hs
  have hP6 := hP5.keepN hk56
  have hcd6 := hk56.heap hcw5 (fun h => h)
  have hdo6 : deOk w6 d := { hdo with wl := hdo.wl.keep (hK5.trans hk56) (fun _ _ h => h) }
  (repeat first | apply wc_seq | apply wc_region)
  refine wr_loadAll (cs := GDe d) rfl rfl rfl hcd6 rfl ?_
  refine wr_call (vs := [.agg (GDe d).toArray]) rfl (key_ca' d hdo6) rfl ?_
  rintro v w7 ⟨rfl, hk67⟩
  have hkl := keysAll_len _ (keyE_all d)
  have hkin := keyE_all d
  obtain ⟨kk, hkk⟩ : ∃ k, k = keyE d := ⟨_, rfl⟩
  rw [← hkk] at hkl hkin ⊢
  (repeat first | (apply wr_alloc; exact rfl))
  refine wr_storeAll (cs := [.int .i64 kk.1, S kk.2]) rfl rfl rfl (by intro u hu; simp at hu; rcases hu with rfl | rfl <;> rfl) (heap_alloc_same _ _) rfl rfl ?_
  refine wr_name ?_
  intro w8 hww8
  obtain ⟨bw8, hbw8⟩ : ∃ b, b = (w7).heap.size := ⟨_, rfl⟩
  have hkw8 : Keeps NoB w7 w8 := by rw [hww8]; exact ((Keeps.refl NoB w7).alloc _).put _ (fun h => by omega)
  have hcw8 : (w8).heap[bw8]? = some (.cells ([.int .i64 kk.1, S kk.2]).toArray 36 (0, 0)) := by rw [hww8, hbw8]; exact World.putObj_heap_same (by simp)
  rw [← hbw8]
  clear hww8
  have hk68 := hk67.trans hkw8
  have hP8 := hP6.keepN hk68
  have hwho8 := hwho6.keepN hk68
  have hcd8 := hk68.heap hcd6 (fun h => h)
  apply wr_end
  apply wc_seq
  refine wc_cut (fun ds' f' w' => ds' = [] ∧ ∃ A' R', PlA w0 ab mb bw2 (i + 1) A' R' w' ∧ WhoAt w0.heap.size w' wv wl ∧ w'.heap[bw8]? = some (.cells [.int .i64 kk.1, S kk.2].toArray 36 (0, 0)) ∧ Slots f' [(0, .slice (some ⟨vb, vo, none⟩) dl.length vc), (3, .bool true), (4, .pointer (some ⟨ab, 0, none⟩)), (5, .pointer (some ⟨bw2, 0, none⟩)), (6, .int .i64 (i : Int)), (10, wv), (12, .pointer (some ⟨bw8, 0, none⟩))]) ?_ ?_
  · obtain ⟨q9, hq9⟩ : ∃ q, q = d.kind % 9 := ⟨_, rfl⟩
    have hq9l : q9 < 9 := by omega
    have hfree8 := hP8.acks.free hcw8 (by decide) (by decide)
    have hz8 := hP8.k.size
    apply wc_seq
    apply wc_region
    refine wr_fieldAddr rfl rfl ?_
    refine wr_load (v := .int .u8 (d.kind : Int)) rfl rfl rfl hcd8 rfl ?_
    refine wr_remN (n := d.kind) (m := 9) rfl rfl rfl (by decide) ?_
    rw [← hq9]
    by_cases h7 : q9 = 7
    · (repeat first | (apply wr_move; exact rfl; with_reducible (conv => enter [6, 3]; whnf)) | (apply wr_assign; exact rfl; with_reducible (conv => enter [6, 3]; whnf)) | apply wr_end | apply wc_seq | apply wc_region | apply wc_block | (apply wr_cmp; (iterate 3 exact rfl); exact cmpT (by dsimp only [cmpP]; first | done | omega)) | (apply wr_cmp; (iterate 3 exact rfl); exact cmpF (by dsimp only [cmpN]; first | done | omega)) | (apply wc_true; exact rfl) | (apply wc_false; exact rfl))
      refine wr_call (vs := [.pointer (some ⟨ab, 0, none⟩), .int .i64 id]) rfl (drop_ca hP8.acks id) rfl ?_
      rintro v w9 ⟨rfl, hA9, hk9⟩
      have hR9 := hP8.ref.keepA hP8.acks hk9
      have hwho9 := hwho8.keepA hP8.acks hP8.abv hk9
      have hkey9 := hk9.heap hcw8 hfree8
      have hz9 := hk9.size
      (repeat first | (apply wr_move; exact rfl; with_reducible (conv => enter [6, 3]; whnf)) | apply wr_end | apply wc_region)
      refine wr_call (vs := [.pointer (some ⟨bw2, 0, none⟩), .int .i64 id]) rfl (dropR_ca hR9 id) rfl ?_
      rintro v w10 ⟨rfl, hR10, hk10⟩
      have heq10 : ∀ x, getL (RL (if idOk id then R.map (dR id) else R)) x = getL (PL (A.map (dropN id))) x := fun x => by
        rw [PL_dropA, getL_mapv, ← hP8.eq]
        split
        · rw [RL_dropA, getL_mapv]
        · rename_i hno
          cases hg : getL (RL R) x with
          | none => rfl
          | some p => rw [Option.map_some, zT_id (hP8.tz x p hg id hno)]
      (repeat first | (apply wr_nil; try simp only [thenE, inBlockE, bodyQ]))
      refine ⟨by trivial, A.map (dropN id), _, ⟨hA9.keepR hk10, hP8.abv.sub (subDropA w8 id A) (by omega), hR10, heq10, ?_, ?_, ?_, (hP8.abv.keeps hP8.k hk9).trans' hk10 (fun q hq e => by have := e.1; omega)⟩, hwho9.keepR hk10, hk10.heap hkey9 (fun e => by
        obtain ⟨_, c9, T9, fr9, hc9, ht9⟩ := e
        rw [hkey9] at hc9
        cases hc9
        revert ht9
        decide), rfl, rfl, rfl, rfl, rfl, rfl, rfl, trivial⟩
      · have := hP8.len
        split
        · rw [List.length_map]; omega
        · omega
      · intro k hk
        rw [List.map_map] at hk
        exact hP8.uni k hk
      · intro x p hp id' hid'
        rw [heq10, PL_dropA, getL_mapv, ← hP8.eq] at hp
        cases hg : getL (RL R) x with
        | none => rw [hg] at hp; cases hp
        | some p0 =>
          rw [hg] at hp
          cases hp
          have := hP8.tz x p0 hg id' hid'
          show setT p0.T id 0 id' = 0
          unfold setT
          split
          · rfl
          · exact this
    by_cases h8 : q9 = 8
    · by_cases h4 : d.seq % 4 = 0
      · (repeat first | (apply wr_assign; exact rfl; with_reducible (conv => enter [6, 3]; whnf)) | apply wr_end | apply wc_seq | apply wc_region | apply wc_block | (apply wr_fieldAddr; iterate 2 exact rfl) | (apply wr_load; (iterate 3 exact rfl); (focus repeat first | with_reducible assumption | exact heap_alloc_same _ _ | exact World.putObj_heap_same (by first | omega | (simp only [World.size_alloc, World.putObj_size, ne_eq]; omega)) | ((first | refine hAl ?_ ?_ | refine hPu ?_ ?_); focus first | omega | (simp only [World.size_alloc, World.putObj_size, ne_eq]; omega))); exact rfl; conv => enter [6, 3]; whnf) | (apply wr_cmp; (iterate 3 exact rfl); exact cmpT (by dsimp only [cmpP]; first | done | omega)) | (apply wr_cmp; (iterate 3 exact rfl); exact cmpF (by dsimp only [cmpN]; first | done | omega)) | (apply wc_true; exact rfl) | (apply wc_false; exact rfl))
        refine wr_remN (n := d.seq) (m := 4) rfl rfl rfl (by decide) ?_
        rw [h4]
        (repeat first | (apply wr_move; exact rfl; with_reducible (conv => enter [6, 3]; whnf)) | apply wr_end | apply wc_seq | apply wc_region | (apply wr_cmp; (iterate 3 exact rfl); exact cmpT (by dsimp only [cmpP]; first | done | omega)) | (apply wc_true; exact rfl))
        refine wr_loadAll (cs := [.int .i64 kk.1, S kk.2]) rfl rfl rfl hcw8 rfl ?_
        skip
        refine wr_call (vs := [.pointer (some ⟨ab, 0, none⟩), encK kk]) rfl (forget_ca hP8.acks kk) rfl ?_
        rintro v w9 ⟨rfl, hA9, hk9m⟩
        have hk9 : Keeps (aD mb A) w8 w9 := hk9m.mono fun q _ e => .inl e
        have hR9 := hP8.ref.keepA hP8.acks hk9
        have hwho9 := hwho8.keepA hP8.acks hP8.abv hk9
        have hkey9 := hk9.heap hcw8 hfree8
        have hz9 := hk9.size
        (repeat first | (apply wr_move; exact rfl; with_reducible (conv => enter [6, 3]; whnf)) | apply wr_end | apply wc_region)
        refine wr_loadAll (cs := [.int .i64 kk.1, S kk.2]) rfl rfl rfl hkey9 rfl ?_
        skip
        refine wr_call (vs := [.pointer (some ⟨bw2, 0, none⟩), encK kk]) rfl (forgetR_ca hR9 (by omega) kk) rfl ?_
        rintro v w10 ⟨rfl, ⟨R', hR10, hg10, hsub10⟩, hk10⟩
        have heq10 : ∀ x, getL (RL R') x = getL (PL (delL A kk)) x := fun x => by rw [hg10, getPL_delA, hP8.eq]
        (repeat first | (apply wr_nil; try simp only [thenE, inBlockE, bodyQ]))
        refine ⟨by trivial, delL A kk, R', hP8.next hA9 (subDelA w8 kk A) hk9 hR10 hk10 heq10 ?_ ?_ ?_, hwho9.keepR hk10, key_RD hkey9 hk10 (by decide) (by decide) (by decide), rfl, rfl, rfl, rfl, rfl, rfl, rfl, trivial⟩
        · have h1 := nodup_sub (R.map (·.k)) (R'.map (·.k)) (by rw [← RL_keys]; exact sort_nodup hR10.sort) (fun x hx => by
            obtain ⟨n, hn, rfl⟩ := List.mem_map.1 hx
            exact List.mem_map.2 ⟨n, hsub10 n hn, rfl⟩)
          rw [List.length_map, List.length_map] at h1
          have := hP8.len
          omega
        · intro k hk
          obtain ⟨z, hz, rfl⟩ := List.mem_map.1 hk
          exact hP8.uni z.1 (List.mem_map.2 ⟨z, (List.mem_filter.1 hz).1, rfl⟩)
        · intro x p hp
          rw [hg10] at hp
          split at hp
          · cases hp
          · exact hP8.tz x p hp
      · have h4' : d.seq % 4 = 1 ∨ d.seq % 4 = 2 ∨ d.seq % 4 = 3 := by omega
        obtain ⟨q4, hq4⟩ : ∃ q, q = d.seq % 4 := ⟨_, rfl⟩
        rw [← hq4] at h4 h4'
        (repeat first | (apply wr_assign; exact rfl; with_reducible (conv => enter [6, 3]; whnf)) | apply wr_end | apply wc_seq | apply wc_region | apply wc_block | (apply wr_fieldAddr; iterate 2 exact rfl) | (apply wr_load; (iterate 3 exact rfl); (focus repeat first | with_reducible assumption | exact heap_alloc_same _ _ | exact World.putObj_heap_same (by first | omega | (simp only [World.size_alloc, World.putObj_size, ne_eq]; omega)) | ((first | refine hAl ?_ ?_ | refine hPu ?_ ?_); focus first | omega | (simp only [World.size_alloc, World.putObj_size, ne_eq]; omega))); exact rfl; conv => enter [6, 3]; whnf) | (apply wr_cmp; (iterate 3 exact rfl); exact cmpT (by dsimp only [cmpP]; first | done | omega)) | (apply wr_cmp; (iterate 3 exact rfl); exact cmpF (by dsimp only [cmpN]; first | done | omega)) | (apply wc_true; exact rfl) | (apply wc_false; exact rfl))
        refine wr_remN (n := d.seq) (m := 4) rfl rfl rfl (by decide) ?_
        rw [← hq4]
        (repeat first | apply wr_end | apply wc_skip | (apply wr_cmp; (iterate 3 exact rfl); exact cmpF (by dsimp only [cmpN]; first | done | omega)) | (apply wc_false; exact rfl))
        exact ⟨by trivial, A, R, { hP8 with len := by have := hP8.len; omega }, hwho8, hcw8, rfl, rfl, rfl, rfl, rfl, rfl, rfl, trivial⟩
    by_cases h56 : q9 = 5 ∨ q9 = 6
    · have hw1 : 0 < wl.length → ∀ q, wv.ownBlock = some q → ¬ aD mb A q := fun hp q hq e => by
        rcases (hwho8.blk hp q hq).2 with h9 | ⟨c9, f9, h9⟩
        · have := hP8.abv q e; omega
        · exact hP8.acks.free h9 (by decide) (by decide) e
      have hout : outsP (getL (RL R) kk) kk wl = outsP (getL (PL A) kk) kk wl := by rw [hP8.eq]
      rcases h56 with h5 | h6
      all_goals
        (repeat first | (apply wr_move; exact rfl; with_reducible (conv => enter [6, 3]; whnf)) | (apply wr_assign; exact rfl; with_reducible (conv => enter [6, 3]; whnf)) | apply wr_end | apply wc_seq | apply wc_region | apply wc_skip | apply wc_block | (apply wr_cmp; (iterate 3 exact rfl); exact cmpT (by dsimp only [cmpP]; first | done | omega)) | (apply wr_cmp; (iterate 3 exact rfl); exact cmpF (by dsimp only [cmpN]; first | done | omega)) | (apply wc_true; exact rfl) | (apply wc_false; exact rfl))
        refine wr_loadAll (cs := [.int .i64 kk.1, S kk.2]) rfl rfl rfl hcw8 rfl ?_
        (repeat first | (apply wr_move; exact rfl; with_reducible (conv => enter [6, 3]; whnf)))
        refine wr_call (vs := [.pointer (some ⟨ab, 0, none⟩), encK kk, wv]) rfl (ready0_ca hP8.acks kk wl wv hwho8.row hwho8.len hw1) rfl ?_
        rintro pv w9 ⟨A', hA9, hpl9, ho9, hk9, hs9⟩
        have hR9 := hP8.ref.keepA hP8.acks hk9
        have hwho9 := hwho8.keepA hP8.acks hP8.abv hk9
        have hkey9 := hk9.heap hcw8 hfree8
        have hz9 := hk9.size
        have hw2 : 0 < wl.length → ∀ q, wv.ownBlock = some q → ¬ RD w0.heap.size w9 q ∧ q < w9.heap.size := fun hp q hq => by
          obtain ⟨h91, h9⟩ := hwho9.blk hp q hq
          refine ⟨fun e => ?_, h91⟩
          obtain ⟨hb, c, T, fr, hc, ht⟩ := e
          rcases h9 with h9 | ⟨c9, f9, h9⟩
          · omega
          · rw [h9] at hc
            cases hc
            revert ht
            decide
        (repeat first | (apply wr_move; exact rfl; with_reducible (conv => enter [6, 3]; whnf)) | (apply wr_assign; exact rfl; with_reducible (conv => enter [6, 3]; whnf)) | apply wr_end | apply wc_seq | apply wc_region)
        refine wr_loadAll (cs := [.int .i64 kk.1, S kk.2]) rfl rfl rfl hkey9 rfl ?_
        (repeat first | (apply wr_move; exact rfl; with_reducible (conv => enter [6, 3]; whnf)))
        refine wr_call (vs := [.pointer (some ⟨bw2, 0, none⟩), encK kk, wv]) rfl (readyR_ca hR9 (by omega) hP8.tzn kk wl wv hwho9.row hwho9.len hw2) rfl ?_
        rintro qv w10 ⟨⟨R', hR10, hg10, hl10⟩, ho10, hk10⟩
        rw [hout] at ho10
        obtain ⟨O, hO⟩ : ∃ O, O = outsP (getL (PL A) kk) kk wl := ⟨_, rfl⟩
        rw [← hO] at ho9 ho10
        have heq10 : ∀ x, getL (RL R') x = getL (PL A') x := fun x => by rw [hg10, hpl9]; exact afterP_same hP8.eq kk wl x
        have hPn : PlA w0 ab mb bw2 (i + 1) A' R' w10 := hP8.next hA9 hs9 hk9 hR10 hk10 heq10 (by have := hP8.len; omega) (fun k hk => by
          rw [← PL_keys, hpl9] at hk
          have := afterP_keys k hk
          rw [PL_keys] at this
          exact hP8.uni k this) (fun x p hp id' hid' => by
          rw [hg10] at hp
          unfold afterP at hp
          cases hgk : getL (RL R) kk with
          | none => rw [hgk] at hp; exact hP8.tz x p hp id' hid'
          | some p0 =>
            rw [hgk] at hp
            dsimp only at hp
            rw [getL_put] at hp
            split at hp
            · cases hp
              exact hP8.tz kk p0 hgk id' hid'
            · exact hP8.tz x p hp id' hid')
        have hwho10 := hwho9.keepR hk10
        have hkey10 := key_RD hkey9 hk10 (by decide) (by decide) (by decide)
        have ho9' := own_keep ho9 hk10 (fun q hq e => by
          obtain ⟨_, _, c9, hc9⟩ := (OwnS.of_own ho9).lt q hq
          obtain ⟨_, c, T, fr, hc, ht⟩ := e
          rw [hc9] at hc
          cases hc
          revert ht
          decide)
        obtain ⟨pa, pc, rfl, hpat⟩ := own_row ho9'
        obtain ⟨qa, qc, rfl, hqat⟩ := own_row ho10
        have hOl : O.length ≤ 100 := by rw [hO]; exact outs_len hP8.acks kk wl
        (repeat first | (apply wr_move; exact rfl; with_reducible (conv => enter [6, 3]; whnf)) | (apply wr_assign; exact rfl; with_reducible (conv => enter [6, 3]; whnf)) | apply wr_end | apply wc_seq | apply wc_region | apply wc_skip | apply wc_block | (apply wr_len_slice; iterate 2 exact rfl) | (apply wr_cmp; (iterate 3 exact rfl); exact cmpF (by dsimp only [cmpN]; first | done | omega)) | (apply wc_false; exact rfl))
        refine wc_loopL (α := Nat) (fun j => [(0, .slice (some ⟨vb, vo, none⟩) dl.length vc), (3, .bool true), (4, .pointer (some ⟨ab, 0, none⟩)), (5, .pointer (some ⟨bw2, 0, none⟩)), (6, .int .i64 (i : Int)), (10, wv), (12, .pointer (some ⟨bw8, 0, none⟩)), (13, .slice pa O.length pc), (14, .slice qa O.length qc), (15, .int .i64 (j : Int))])
          (fun j ds w' => ds = [] ∧ j ≤ O.length ∧ Keeps NoB w10 w') (fun j => O.length - j) 0
          ⟨rfl, Nat.zero_le _, Keeps.refl _ _⟩ ⟨rfl, rfl, rfl, rfl, rfl, rfl, rfl, rfl, rfl, rfl, trivial⟩ ?_
        rintro j ds f1 w11 ⟨rfl, hj, hk11⟩
        by_cases hjl : j < O.length
        · obtain ⟨⟨⟨xt, xn⟩, xq, xo, xd⟩, hx⟩ : ∃ x, O[j]? = some x := ⟨O[j], by simp [hjl]⟩
          obtain ⟨pb, pcur, rfl, _, hpb, hpr⟩ := hpat (by omega)
          obtain ⟨qb, qcur, rfl, _, hqb, hqr⟩ := hqat (by omega)
          have hpb11 := hk11.heap hpb (fun h => h)
          have hqb11 := hk11.heap hqb (fun h => h)
          have hpc : ∀ r v, r < 5 → (GS ((xt, xn), xq, xo, xd))[r]? = some v → pcur[0 + j * 5 + r]? = some v := fun r v hr hv => by
            have := hpr (j * 5 + r) (by omega)
            rw [Nat.zero_add, this, flat_get GS_len O j _ r hx hr, hv]
          have hqc : ∀ r v, r < 5 → (GS ((xt, xn), xq, xo, xd))[r]? = some v → qcur[0 + j * 5 + r]? = some v := fun r v hr hv => by
            have := hqr (j * 5 + r) (by omega)
            rw [Nat.zero_add, this, flat_get GS_len O j _ r hx hr, hv]
          have hky : ∀ {w'}, Keeps NoB w11.drew w' → Keeps NoB w11 w' := fun hk => (Keeps.refl NoB w11).drew.trans hk
          (repeat first | (apply wr_move; exact rfl; with_reducible (conv => enter [6, 3]; whnf)) | apply wr_end | apply wc_seq | apply wc_region | apply wc_skip | apply wc_block | (apply wr_len_slice; iterate 2 exact rfl) | (apply wr_cmp; (iterate 3 exact rfl); exact cmpT (by dsimp only [cmpP]; first | done | omega)) | (apply wc_true; exact rfl))
          refine wc_drawP (l := _) 50 _ (by kernel_rfl) (by kernel_rfl) rfl (by kernel_rfl) (by kernel_rfl) (by decide) ?_
          apply chP_pure
          focus
            intro xx w' hk hF
            apply wr_move; exact rfl; with_reducible (conv => enter [6, 3]; whnf)
            apply wr_nil
            exact ⟨rfl, Keeps.refl _ _⟩
          focus (intro xx yy h; rfl)
          focus kernel_rfl
          apply chP_pure
          focus
            intro xx w' hk hF
            apply wr_move; exact rfl; with_reducible (conv => enter [6, 3]; whnf)
            apply wr_nil
            exact ⟨rfl, Keeps.refl _ _⟩
          focus (intro xx yy h; rfl)
          focus kernel_rfl
          apply chP_pure
          focus
            intro xx w' hk hF
            refine wr_indexAddr (i := j) rfl rfl rfl hjl ?_
            apply wr_nil
            exact ⟨rfl, Keeps.refl _ _⟩
          focus (intro xx yy h; rfl)
          focus kernel_rfl
          apply chP_pure
          focus
            intro xx w' hk hF
            refine wr_fieldAddr rfl rfl ?_
            apply wr_nil
            exact ⟨rfl, Keeps.refl _ _⟩
          focus (intro xx yy h; rfl)
          focus kernel_rfl
          apply chP_pure
          focus
            intro xx w' hk hF
            refine wr_loadAgg (cs := [.int .i64 xt, S xn]) rfl rfl rfl rfl (fun j u h => by match j, h with | 0, h => cases h; exact cell_of_heap ((hky hk).heap hpb11 (fun h => h)) (hpc 0 _ (by decide) rfl) | 1, h => cases h; exact cell_of_heap ((hky hk).heap hpb11 (fun h => h)) (hpc 1 _ (by decide) rfl) | j + 2, h => simp at h) ?_
            apply wr_nil
            exact ⟨rfl, Keeps.refl _ _⟩
          focus (intro xx yy h; rfl)
          focus kernel_rfl
          apply chP_pure
          focus
            intro xx w' hk hF
            apply wr_move; exact rfl; with_reducible (conv => enter [6, 3]; whnf)
            apply wr_nil
            exact ⟨rfl, Keeps.refl _ _⟩
          focus (intro xx yy h; rfl)
          focus kernel_rfl
          apply chP_pure
          focus
            intro xx w' hk hF
            apply wr_move; exact rfl; with_reducible (conv => enter [6, 3]; whnf)
            apply wr_nil
            exact ⟨rfl, Keeps.refl _ _⟩
          focus (intro xx yy h; rfl)
          focus kernel_rfl
          apply chP_pure
          focus
            intro xx w' hk hF
            refine wr_indexAddr (i := j) rfl rfl rfl hjl ?_
            apply wr_nil
            exact ⟨rfl, Keeps.refl _ _⟩
          focus (intro xx yy h; rfl)
          focus kernel_rfl
          apply chP_pure
          focus
            intro xx w' hk hF
            refine wr_fieldAddr rfl rfl ?_
            apply wr_nil
            exact ⟨rfl, Keeps.refl _ _⟩
          focus (intro xx yy h; rfl)
          focus kernel_rfl
          apply chP_pure
          focus
            intro xx w' hk hF
            refine wr_loadAgg (cs := [.int .i64 xt, S xn]) rfl rfl rfl rfl (fun j u h => by match j, h with | 0, h => cases h; exact cell_of_heap ((hky hk).heap hqb11 (fun h => h)) (hqc 0 _ (by decide) rfl) | 1, h => cases h; exact cell_of_heap ((hky hk).heap hqb11 (fun h => h)) (hqc 1 _ (by decide) rfl) | j + 2, h => simp at h) ?_
            apply wr_nil
            exact ⟨rfl, Keeps.refl _ _⟩
          focus (intro xx yy h; rfl)
          focus kernel_rfl
          apply chP_pure
          focus
            intro xx w' hk hF
            refine wr_structNe (c := false) rfl rfl rfl key_stood kguard (keqOk (xt, xn) (xt, xn) _) (by simp) ?_
            apply wr_nil
            exact ⟨rfl, Keeps.refl _ _⟩
          focus (intro xx yy h; rfl)
          focus kernel_rfl
          apply chP_pure
          focus
            intro xx w' hk hF
            apply wr_move; exact rfl; with_reducible (conv => enter [6, 3]; whnf)
            apply wr_nil
            exact ⟨rfl, Keeps.refl _ _⟩
          focus (intro xx yy h; rfl)
          focus kernel_rfl
          apply chP_pure
          focus
            intro xx w' hk hF
            apply wr_move; exact rfl; with_reducible (conv => enter [6, 3]; whnf)
            apply wr_nil
            exact ⟨rfl, Keeps.refl _ _⟩
          focus (intro xx yy h; rfl)
          focus kernel_rfl
          apply chP_pure
          focus
            intro xx w' hk hF
            apply wr_move; exact rfl; with_reducible (conv => enter [6, 3]; whnf)
            apply wr_nil
            exact ⟨rfl, Keeps.refl _ _⟩
          focus (intro xx yy h; rfl)
          focus kernel_rfl
          apply chP_pure
          focus
            intro xx w' hk hF
            refine wr_indexAddr (i := j) rfl rfl rfl hjl ?_
            apply wr_nil
            exact ⟨rfl, Keeps.refl _ _⟩
          focus (intro xx yy h; rfl)
          focus kernel_rfl
          apply chP_pure
          focus
            intro xx w' hk hF
            refine wr_fieldAddr rfl rfl ?_
            apply wr_nil
            exact ⟨rfl, Keeps.refl _ _⟩
          focus (intro xx yy h; rfl)
          focus kernel_rfl
          apply chP_pure
          focus
            intro xx w' hk hF
            refine wr_load (v := .int .u64 (xq : Int)) rfl rfl rfl ((hky hk).heap hpb11 (fun h => h)) (hpc 2 _ (by decide) rfl) ?_
            apply wr_nil
            exact ⟨rfl, Keeps.refl _ _⟩
          focus (intro xx yy h; rfl)
          focus kernel_rfl
          apply chP_pure
          focus
            intro xx w' hk hF
            apply wr_move; exact rfl; with_reducible (conv => enter [6, 3]; whnf)
            apply wr_nil
            exact ⟨rfl, Keeps.refl _ _⟩
          focus (intro xx yy h; rfl)
          focus kernel_rfl
          apply chP_pure
          focus
            intro xx w' hk hF
            apply wr_move; exact rfl; with_reducible (conv => enter [6, 3]; whnf)
            apply wr_nil
            exact ⟨rfl, Keeps.refl _ _⟩
          focus (intro xx yy h; rfl)
          focus kernel_rfl
          apply chP_pure
          focus
            intro xx w' hk hF
            refine wr_indexAddr (i := j) rfl rfl rfl hjl ?_
            apply wr_nil
            exact ⟨rfl, Keeps.refl _ _⟩
          focus (intro xx yy h; rfl)
          focus kernel_rfl
          apply chP_pure
          focus
            intro xx w' hk hF
            refine wr_fieldAddr rfl rfl ?_
            apply wr_nil
            exact ⟨rfl, Keeps.refl _ _⟩
          focus (intro xx yy h; rfl)
          focus kernel_rfl
          apply chP_pure
          focus
            intro xx w' hk hF
            refine wr_load (v := .int .u64 (xq : Int)) rfl rfl rfl ((hky hk).heap hqb11 (fun h => h)) (hqc 2 _ (by decide) rfl) ?_
            apply wr_nil
            exact ⟨rfl, Keeps.refl _ _⟩
          focus (intro xx yy h; rfl)
          focus kernel_rfl
          apply chP_pure
          focus
            intro xx w' hk hF
            refine wr_cmp rfl rfl rfl (cmpF (by dsimp only [cmpN]; first | done | omega)) ?_
            apply wr_nil
            exact ⟨rfl, Keeps.refl _ _⟩
          focus (intro xx yy h; rfl)
          focus kernel_rfl
          apply chP_pure
          focus
            intro xx w' hk hF
            apply wr_pick (t := false); (iterate 2 exact rfl); with_reducible (conv => enter [6, 3]; whnf)
            apply wr_nil
            exact ⟨rfl, Keeps.refl _ _⟩
          focus (intro xx yy h; rfl)
          focus kernel_rfl
          apply chP_pure
          focus
            intro xx w' hk hF
            apply wr_move; exact rfl; with_reducible (conv => enter [6, 3]; whnf)
            apply wr_nil
            exact ⟨rfl, Keeps.refl _ _⟩
          focus (intro xx yy h; rfl)
          focus kernel_rfl
          apply chP_pure
          focus
            intro xx w' hk hF
            apply wr_move; exact rfl; with_reducible (conv => enter [6, 3]; whnf)
            apply wr_nil
            exact ⟨rfl, Keeps.refl _ _⟩
          focus (intro xx yy h; rfl)
          focus kernel_rfl
          apply chP_pure
          focus
            intro xx w' hk hF
            apply wr_move; exact rfl; with_reducible (conv => enter [6, 3]; whnf)
            apply wr_nil
            exact ⟨rfl, Keeps.refl _ _⟩
          focus (intro xx yy h; rfl)
          focus kernel_rfl
          apply chP_pure
          focus
            intro xx w' hk hF
            refine wr_indexAddr (i := j) rfl rfl rfl hjl ?_
            apply wr_nil
            exact ⟨rfl, Keeps.refl _ _⟩
          focus (intro xx yy h; rfl)
          focus kernel_rfl
          apply chP_pure
          focus
            intro xx w' hk hF
            refine wr_fieldAddr rfl rfl ?_
            apply wr_nil
            exact ⟨rfl, Keeps.refl _ _⟩
          focus (intro xx yy h; rfl)
          focus kernel_rfl
          apply chP_pure
          focus
            intro xx w' hk hF
            refine wr_load (v := .bool xo) rfl rfl rfl ((hky hk).heap hpb11 (fun h => h)) (hpc 3 _ (by decide) rfl) ?_
            apply wr_nil
            exact ⟨rfl, Keeps.refl _ _⟩
          focus (intro xx yy h; rfl)
          focus kernel_rfl
          apply chP_pure
          focus
            intro xx w' hk hF
            apply wr_move; exact rfl; with_reducible (conv => enter [6, 3]; whnf)
            apply wr_nil
            exact ⟨rfl, Keeps.refl _ _⟩
          focus (intro xx yy h; rfl)
          focus kernel_rfl
          apply chP_pure
          focus
            intro xx w' hk hF
            apply wr_move; exact rfl; with_reducible (conv => enter [6, 3]; whnf)
            apply wr_nil
            exact ⟨rfl, Keeps.refl _ _⟩
          focus (intro xx yy h; rfl)
          focus kernel_rfl
          apply chP_pure
          focus
            intro xx w' hk hF
            refine wr_indexAddr (i := j) rfl rfl rfl hjl ?_
            apply wr_nil
            exact ⟨rfl, Keeps.refl _ _⟩
          focus (intro xx yy h; rfl)
          focus kernel_rfl
          apply chP_pure
          focus
            intro xx w' hk hF
            refine wr_fieldAddr rfl rfl ?_
            apply wr_nil
            exact ⟨rfl, Keeps.refl _ _⟩
          focus (intro xx yy h; rfl)
          focus kernel_rfl
          apply chP_pure
          focus
            intro xx w' hk hF
            refine wr_load (v := .bool xo) rfl rfl rfl ((hky hk).heap hqb11 (fun h => h)) (hqc 3 _ (by decide) rfl) ?_
            apply wr_nil
            exact ⟨rfl, Keeps.refl _ _⟩
          focus (intro xx yy h; rfl)
          focus kernel_rfl
          apply chP_pure
          focus
            intro xx w' hk hF
            refine wr_boolNe (c := false) rfl rfl rfl (by cases xo <;> rfl) ?_
            apply wr_nil
            exact ⟨rfl, Keeps.refl _ _⟩
          focus (intro xx yy h; rfl)
          focus kernel_rfl
          apply chP_pure
          focus
            intro xx w' hk hF
            apply wr_pick (t := false); (iterate 2 exact rfl); with_reducible (conv => enter [6, 3]; whnf)
            apply wr_nil
            exact ⟨rfl, Keeps.refl _ _⟩
          focus (intro xx yy h; rfl)
          focus kernel_rfl
          apply chP_pure
          focus
            intro xx w' hk hF
            apply wr_move; exact rfl; with_reducible (conv => enter [6, 3]; whnf)
            apply wr_nil
            exact ⟨rfl, Keeps.refl _ _⟩
          focus (intro xx yy h; rfl)
          focus kernel_rfl
          apply chP_pure
          focus
            intro xx w' hk hF
            apply wr_move; exact rfl; with_reducible (conv => enter [6, 3]; whnf)
            apply wr_nil
            exact ⟨rfl, Keeps.refl _ _⟩
          focus (intro xx yy h; rfl)
          focus kernel_rfl
          apply chP_pure
          focus
            intro xx w' hk hF
            apply wr_move; exact rfl; with_reducible (conv => enter [6, 3]; whnf)
            apply wr_nil
            exact ⟨rfl, Keeps.refl _ _⟩
          focus (intro xx yy h; rfl)
          focus kernel_rfl
          apply chP_pure
          focus
            intro xx w' hk hF
            refine wr_indexAddr (i := j) rfl rfl rfl hjl ?_
            apply wr_nil
            exact ⟨rfl, Keeps.refl _ _⟩
          focus (intro xx yy h; rfl)
          focus kernel_rfl
          apply chP_pure
          focus
            intro xx w' hk hF
            refine wr_fieldAddr rfl rfl ?_
            apply wr_nil
            exact ⟨rfl, Keeps.refl _ _⟩
          focus (intro xx yy h; rfl)
          focus kernel_rfl
          apply chP_pure
          focus
            intro xx w' hk hF
            refine wr_load (v := S xd) rfl rfl rfl ((hky hk).heap hpb11 (fun h => h)) (hpc 4 _ (by decide) rfl) ?_
            apply wr_nil
            exact ⟨rfl, Keeps.refl _ _⟩
          focus (intro xx yy h; rfl)
          focus kernel_rfl
          apply chP_pure
          focus
            intro xx w' hk hF
            apply wr_move; exact rfl; with_reducible (conv => enter [6, 3]; whnf)
            apply wr_nil
            exact ⟨rfl, Keeps.refl _ _⟩
          focus (intro xx yy h; rfl)
          focus kernel_rfl
          apply chP_pure
          focus
            intro xx w' hk hF
            apply wr_move; exact rfl; with_reducible (conv => enter [6, 3]; whnf)
            apply wr_nil
            exact ⟨rfl, Keeps.refl _ _⟩
          focus (intro xx yy h; rfl)
          focus kernel_rfl
          apply chP_pure
          focus
            intro xx w' hk hF
            refine wr_indexAddr (i := j) rfl rfl rfl hjl ?_
            apply wr_nil
            exact ⟨rfl, Keeps.refl _ _⟩
          focus (intro xx yy h; rfl)
          focus kernel_rfl
          apply chP_pure
          focus
            intro xx w' hk hF
            refine wr_fieldAddr rfl rfl ?_
            apply wr_nil
            exact ⟨rfl, Keeps.refl _ _⟩
          focus (intro xx yy h; rfl)
          focus kernel_rfl
          apply chP_pure
          focus
            intro xx w' hk hF
            refine wr_load (v := S xd) rfl rfl rfl ((hky hk).heap hqb11 (fun h => h)) (hqc 4 _ (by decide) rfl) ?_
            apply wr_nil
            exact ⟨rfl, Keeps.refl _ _⟩
          focus (intro xx yy h; rfl)
          focus kernel_rfl
          apply chP_pure
          focus
            intro xx w' hk hF
            refine wr_strnec (c := true) rfl rfl rfl (decide_eq_true rfl) ?_; with_reducible (conv => enter [6, 3]; whnf)
            apply wr_nil
            exact ⟨rfl, Keeps.refl _ _⟩
          focus (intro xx yy h; rfl)
          focus kernel_rfl
          apply chP_pure
          focus
            intro xx w' hk hF
            apply wr_pick (t := false); (iterate 2 exact rfl); with_reducible (conv => enter [6, 3]; whnf)
            apply wr_nil
            exact ⟨rfl, Keeps.refl _ _⟩
          focus (intro xx yy h; rfl)
          focus kernel_rfl
          refine chP_nil ?_
          intro xx w12 hk12' hF
          have hk12 := hky hk12'
          clear hF
          (repeat first | (apply wr_move; exact rfl; with_reducible (conv => enter [6, 3]; whnf)) | (apply wr_assign; exact rfl; with_reducible (conv => enter [6, 3]; whnf)) | apply wr_end | apply wc_region | apply wc_skip | (apply wr_add; (iterate 3 exact rfl); exact w_fit (by dsimp only [kIn]; first | done | omega)) | (apply wc_false; exact rfl))
          exact ⟨j + 1, by omega, ⟨by trivial, hjl, hk11.trans hk12⟩, rfl, rfl, rfl, rfl, rfl, rfl, rfl, rfl, rfl, rfl, trivial⟩
        (repeat first | (apply wr_move; exact rfl; with_reducible (conv => enter [6, 3]; whnf)) | apply wr_end | apply wc_seq | apply wc_region | (apply wr_len_slice; iterate 2 exact rfl) | (apply wr_cmp; (iterate 3 exact rfl); exact cmpF (by dsimp only [cmpN]; first | done | omega)) | (apply wc_false; exact rfl) | (apply wc_exit; try simp only [thenE, inBlockE, bodyQ, ↓reduceIte, Nat.reduceEqDiff]))
        exact ⟨by trivial, A', R', hPn.keepN hk11, hwho10.keepN hk11, hk11.heap hkey10 (fun h => h), rfl, rfl, rfl, rfl, rfl, rfl, rfl, trivial⟩
    -- Note
    have hq9e : q9 ≠ 5 ∧ q9 ≠ 6 ∧ q9 ≠ 7 ∧ q9 ≠ 8 := ⟨fun e => h56 (.inl e), fun e => h56 (.inr e), h7, h8⟩
    (repeat first | (apply wr_assign; exact rfl; with_reducible (conv => enter [6, 3]; whnf)) | apply wr_end | apply wc_seq | apply wc_region | apply wc_block | (apply wr_cmp; (iterate 3 exact rfl); exact cmpF (by dsimp only [cmpN]; first | done | omega)) | (apply wc_false; exact rfl))
    refine wr_loadAll (cs := [.int .i64 kk.1, S kk.2]) rfl rfl rfl hcw8 rfl ?_
    (repeat first | (apply wr_move; exact rfl; with_reducible (conv => enter [6, 3]; whnf)) | (apply wr_fieldAddr; iterate 2 exact rfl) | (apply wr_load; (iterate 3 exact rfl); (focus repeat first | with_reducible assumption | exact heap_alloc_same _ _ | exact World.putObj_heap_same (by first | omega | (simp only [World.size_alloc, World.putObj_size, ne_eq]; omega)) | ((first | refine hAl ?_ ?_ | refine hPu ?_ ?_); focus first | omega | (simp only [World.size_alloc, World.putObj_size, ne_eq]; omega))); exact rfl; conv => enter [6, 3]; whnf))
    refine wr_build (ps := [(0, .agg #[.int .i64 kk.1, S kk.2]), (1, .int .u64 (seq : Int)), (2, .bool d.ok), (3, S d.s)]) (cs := GS (kk, seq, d.ok, d.s)) rfl rfl rfl rfl ?_
    (repeat first | (apply wr_alloc; exact rfl))
    refine wr_storeAll (cs := (GS (kk, seq, d.ok, d.s))) rfl rfl rfl (GS_one _) (heap_alloc_same _ _) rfl rfl ?_
    refine wr_name ?_
    intro w9 hww9
    obtain ⟨bw9, hbw9⟩ : ∃ b, b = (w8).heap.size := ⟨_, rfl⟩
    have hkw9 : Keeps NoB w8 w9 := by rw [hww9]; exact ((Keeps.refl NoB w8).alloc _).put _ (fun h => by omega)
    have hcw9 : (w9).heap[bw9]? = some (.cells ((GS (kk, seq, d.ok, d.s))).toArray 43 (0, 0)) := by rw [hww9, hbw9]; exact World.putObj_heap_same (by simp)
    rw [← hbw9]
    clear hww9
    have hz9 := hkw9.size
    apply wr_end
    apply wc_seq
    refine wc_cut (fun ds' f' w' => ds' = [] ∧ ∃ det : TT, det.length ≤ 9223372036854775807 ∧ Keeps NoB w8 w' ∧ w'.heap[bw9]? = some (.cells (GS (kk, seq, d.ok, det)).toArray 43 (0, 0)) ∧ Slots f' [(0, .slice (some ⟨vb, vo, none⟩) dl.length vc), (3, .bool true), (4, .pointer (some ⟨ab, 0, none⟩)), (5, .pointer (some ⟨bw2, 0, none⟩)), (6, .int .i64 (i : Int)), (8, .int .i64 id), (10, wv), (12, .pointer (some ⟨bw8, 0, none⟩)), (16, .pointer (some ⟨bw9, 0, none⟩))]) ?_ ?_
    · have hcd9 := hkw9.heap hcd8 (fun h => h)
      apply wc_seq
      apply wc_region
      refine wr_fieldAddr rfl rfl ?_
      cases hdk : d.ok
      · refine wr_load (v := .bool false) rfl rfl rfl hcd9 (by simp [GDe, hdk]) ?_
        rw [hdk] at hcw9
        (repeat first | (apply wr_move; exact rfl; with_reducible (conv => enter [6, 3]; whnf)) | apply wr_end | apply wc_skip | (apply wr_pick (t := false); (iterate 2 exact rfl); with_reducible (conv => enter [6, 3]; whnf)) | (apply wc_false; exact rfl) | (apply wr_skip; exact rfl))
        exact ⟨by trivial, d.s, hdo.s, hkw9, hcw9, rfl, rfl, rfl, rfl, rfl, rfl, rfl, rfl, rfl, trivial⟩
      · refine wr_load (v := .bool true) rfl rfl rfl hcd9 (by simp [GDe, hdk]) ?_
        rw [hdk] at hcw9
        (repeat first | (apply wr_move; exact rfl; with_reducible (conv => enter [6, 3]; whnf)) | (apply wr_fieldAddr; iterate 2 exact rfl) | (apply wr_load; (iterate 3 exact rfl); (focus repeat first | with_reducible assumption | exact heap_alloc_same _ _ | exact World.putObj_heap_same (by first | omega | (simp only [World.size_alloc, World.putObj_size, ne_eq]; omega)) | ((first | refine hAl ?_ ?_ | refine hPu ?_ ?_); focus first | omega | (simp only [World.size_alloc, World.putObj_size, ne_eq]; omega))); exact rfl; conv => enter [6, 3]; whnf))
        refine wr_remN (n := d.kind) (m := 4) rfl rfl rfl (by decide) ?_
        by_cases hm4 : d.kind % 4 = 0
        · rw [hm4]
          (repeat first | apply wr_end | apply wc_skip | (apply wr_cmp; (iterate 3 exact rfl); exact cmpF (by dsimp only [cmpN]; first | done | omega)) | (apply wr_pick (t := true); (iterate 2 exact rfl); with_reducible (conv => enter [6, 3]; whnf)) | (apply wc_false; exact rfl))
          exact ⟨by trivial, d.s, hdo.s, hkw9, hcw9, rfl, rfl, rfl, rfl, rfl, rfl, rfl, rfl, rfl, trivial⟩
        · obtain ⟨q4, hq4⟩ : ∃ q, q = d.kind % 4 := ⟨_, rfl⟩
          rw [← hq4] at hm4 ⊢
          (repeat first | apply wr_end | apply wc_region | (apply wr_fieldAddr; iterate 2 exact rfl) | (apply wr_cmp; (iterate 3 exact rfl); exact cmpT (by dsimp only [cmpP]; first | done | omega)) | (apply wr_pick (t := true); (iterate 2 exact rfl); with_reducible (conv => enter [6, 3]; whnf)) | (apply wr_store; (iterate 3 exact rfl); (first | exact rfl | with_reducible assumption); (focus repeat first | with_reducible assumption | exact heap_alloc_same _ _ | exact World.putObj_heap_same (by first | omega | (simp only [World.size_alloc, World.putObj_size, ne_eq]; omega)) | ((first | refine hAl ?_ ?_ | refine hPu ?_ ?_); focus first | omega | (simp only [World.size_alloc, World.putObj_size, ne_eq]; omega))); exact rfl) | (apply wc_true; exact rfl))
          exact ⟨by trivial, [], by simp, hkw9.trans' ((Keeps.refl (· = bw9) w9).put _ (fun _ => rfl)) (fun q hq e => by omega), World.putObj_heap_same (lt_of_heap hcw9), rfl, rfl, rfl, rfl, rfl, rfl, rfl, rfl, rfl, trivial⟩
    rintro ds' f' w10 ⟨rfl, det, hdet, hk810, hc10, hs⟩
    rw [← setL_self f' _ hs.all]
    clear hs
    have hP10 := hP8.keepN hk810
    have hwho10 := hwho8.keepN hk810
    have hkey10 := hk810.heap hcw8 (fun h => h)
    have hz10 := hk810.size
    have hkz : ∀ {w'}, Keeps NoB w10.drew w' → Keeps NoB w10 w' := fun hk => (Keeps.refl NoB w10).drew.trans hk
    have hkzD : ∀ {w'}, Keeps (aD mb A) w10.drew w' → Keeps (aD mb A) w10 w' := fun hk => (Keeps.refl (aD mb A) w10).drew.trans hk
    have hf10 := hP10.acks.free hc10 (by decide) (by decide)
    obtain ⟨s, hse⟩ : ∃ s : SD, s = (kk, seq, d.ok, det) := ⟨_, rfl⟩
    have hc10' : w10.heap[bw9]? = some (.cells (GS s).toArray 43 (0, 0)) := by rw [hse]; exact hc10
    have hsn : s.1.2.length ≤ 9223372036854775807 := by rw [hse]; show kk.2.length ≤ _; omega
    have hsd : s.2.2.2.length ≤ 9223372036854775807 := by rw [hse]; exact hdet
    have hsq : s.2.1 < 18446744073709551616 := by rw [hse]; exact hseq
    have hsk : s.1 = kk := by rw [hse]
    clear hc10 hse
    (repeat first | apply wc_seq)
    refine V.B.wc_drawQ (l := _) (aD mb A) (some 3) 15 _ (by kernel_rfl) (by kernel_rfl) rfl (by kernel_rfl) (by kernel_rfl) (by decide) ?_
    apply B.chP_pure
    focus
      intro xx w' hk hF
      have hk1 := hkz (B.toNo hk (by kernel_rfl))
      apply wr_move; exact rfl; with_reducible (conv => enter [6, 3]; whnf)
      apply wr_nil
      exact ⟨rfl, Keeps.refl _ _⟩
    focus (intro xx yy h; rfl)
    focus kernel_rfl
    apply B.chP_pure
    focus
      intro xx w' hk hF
      have hk1 := hkz (B.toNo hk (by kernel_rfl))
      apply wr_move; exact rfl; with_reducible (conv => enter [6, 3]; whnf)
      apply wr_nil
      exact ⟨rfl, Keeps.refl _ _⟩
    focus (intro xx yy h; rfl)
    focus kernel_rfl
    apply B.chP_pure
    focus
      intro xx w' hk hF
      have hk1 := hkz (B.toNo hk (by kernel_rfl))
      refine wr_loadAll (cs := GS s) rfl rfl rfl (hk1.heap hc10' (fun h => h)) rfl ?_
      apply wr_nil
      exact ⟨rfl, Keeps.refl _ _⟩
    focus (intro xx yy h; rfl)
    focus kernel_rfl
    refine B.chP_fact (fun y => y) (fun y w' => (¬ (stOk s ∧ idOk id) ∧ y = .int .i64 1 ∧ AcksAt w' w0.heap.size ab mb A) ∨ ((stOk s ∧ idOk id) ∧ y = .int .i64 0 ∧ ∃ A', AcksAt w' w0.heap.size ab mb A' ∧ PL A' = putL (PL A) s.1 (noteP ((getL (PL A) s.1).getD PN.new) id s) ∧ Sub w10 A A')) (fun y w' w'' h k => ?_) ?_ ?_
    focus
      rcases h with ⟨h1, h2, h3⟩ | ⟨h1, h2, A', h3, h4, h5⟩
      · exact .inl ⟨h1, h2, h3.keep k⟩
      · exact .inr ⟨h1, h2, A', h3.keep k, h4, h5⟩
    focus
      intro xx w' hk hF
      have hk1 := hkz (B.toNo hk (by kernel_rfl))
      refine wr_call (vs := [.pointer (some ⟨ab, 0, none⟩), .int .i64 id, SdV s]) rfl (note_ca (hP10.acks.keep hk1) (by have := hk1.size; omega) id s hsn hsd hsq) rfl ?_
      rintro v w'' (⟨h1, rfl, hk2⟩ | ⟨h1, rfl, A', h3, h4, hk2, h5⟩)
      · apply wr_nil
        exact ⟨_, rfl, .inl ⟨h1, rfl, (hP10.acks.keep hk1).keep hk2⟩, hk2.upD⟩
      · apply wr_nil
        exact ⟨_, rfl, .inr ⟨h1, rfl, A', h3, h4, h5.down hk1.size⟩, hk2⟩
    apply B.chP_pure
    focus
      intro xx w' hk hF
      have hk1 := hkzD (B.toD hk (by kernel_rfl))
      apply wr_move; exact rfl; with_reducible (conv => enter [6, 3]; whnf)
      apply wr_nil
      exact ⟨rfl, Keeps.refl _ _⟩
    focus (intro xx yy h; rfl)
    focus kernel_rfl
    apply B.chP_pure
    focus
      intro xx w' hk hF
      have hk1 := hkzD (B.toD hk (by kernel_rfl))
      apply wr_move; exact rfl; with_reducible (conv => enter [6, 3]; whnf)
      apply wr_nil
      exact ⟨rfl, Keeps.refl _ _⟩
    focus (intro xx yy h; rfl)
    focus kernel_rfl
    apply B.chP_pure
    focus
      intro xx w' hk hF
      have hk1 := hkzD (B.toD hk (by kernel_rfl))
      refine wr_fieldAddr rfl rfl ?_
      apply wr_nil
      exact ⟨rfl, Keeps.refl _ _⟩
    focus (intro xx yy h; rfl)
    focus kernel_rfl
    apply B.chP_pure
    focus
      intro xx w' hk hF
      have hk1 := hkzD (B.toD hk (by kernel_rfl))
      refine wr_loadAgg (cs := [.int .i64 s.1.1, S s.1.2]) rfl rfl rfl rfl (fun j u h => by match j, h with | 0, h => cases h; exact cell_of_heap (hk1.heap hc10' hf10) rfl | 1, h => cases h; exact cell_of_heap (hk1.heap hc10' hf10) rfl | j + 2, h => simp at h) ?_
      apply wr_nil
      exact ⟨rfl, Keeps.refl _ _⟩
    focus (intro xx yy h; rfl)
    focus kernel_rfl
    apply B.chP_pure
    focus
      intro xx w' hk hF
      have hk1 := hkzD (B.toD hk (by kernel_rfl))
      refine wr_fieldAddr rfl rfl ?_
      apply wr_nil
      exact ⟨rfl, Keeps.refl _ _⟩
    focus (intro xx yy h; rfl)
    focus kernel_rfl
    apply B.chP_pure
    focus
      intro xx w' hk hF
      have hk1 := hkzD (B.toD hk (by kernel_rfl))
      refine wr_load (v := .int .u64 ((s.2.1 : Nat) : Int)) rfl rfl rfl (hk1.heap hc10' hf10) rfl ?_
      apply wr_nil
      exact ⟨rfl, Keeps.refl _ _⟩
    focus (intro xx yy h; rfl)
    focus kernel_rfl
    apply B.chP_pure
    focus
      intro xx w' hk hF
      have hk1 := hkzD (B.toD hk (by kernel_rfl))
      refine wr_fieldAddr rfl rfl ?_
      apply wr_nil
      exact ⟨rfl, Keeps.refl _ _⟩
    focus (intro xx yy h; rfl)
    focus kernel_rfl
    apply B.chP_pure
    focus
      intro xx w' hk hF
      have hk1 := hkzD (B.toD hk (by kernel_rfl))
      refine wr_load (v := .bool s.2.2.1) rfl rfl rfl (hk1.heap hc10' hf10) rfl ?_
      apply wr_nil
      exact ⟨rfl, Keeps.refl _ _⟩
    focus (intro xx yy h; rfl)
    focus kernel_rfl
    apply B.chP_pure
    focus
      intro xx w' hk hF
      have hk1 := hkzD (B.toD hk (by kernel_rfl))
      refine wr_fieldAddr rfl rfl ?_
      apply wr_nil
      exact ⟨rfl, Keeps.refl _ _⟩
    focus (intro xx yy h; rfl)
    focus kernel_rfl
    apply B.chP_pure
    focus
      intro xx w' hk hF
      have hk1 := hkzD (B.toD hk (by kernel_rfl))
      refine wr_load (v := S s.2.2.2) rfl rfl rfl (hk1.heap hc10' hf10) rfl ?_
      apply wr_nil
      exact ⟨rfl, Keeps.refl _ _⟩
    focus (intro xx yy h; rfl)
    focus kernel_rfl
    apply B.chP_pure
    focus
      intro xx w' hk hF
      have hk1 := hkzD (B.toD hk (by kernel_rfl))
      refine wr_build (ps := [(0, .agg #[.int .i64 s.1.1, S s.1.2]), (1, .int .u64 ((s.2.1 : Nat) : Int)), (2, .bool s.2.2.1), (3, S s.2.2.2)]) (cs := GS s) rfl rfl rfl rfl ?_
      apply wr_nil
      exact ⟨rfl, Keeps.refl _ _⟩
    focus (intro xx yy h; rfl)
    focus kernel_rfl
    refine B.chP_nil ?_
    intro xx w11 hk11' hF
    have hk11 := hkzD hk11'
    have hf3 := hF 3 (by decide)
    clear hF
    have hR11 := hP10.ref.keepA hP10.acks hk11
    have hwho11 := hwho10.keepA hP10.acks hP10.abv hk11
    have hkey11 := hk11.heap hkey10 (hP10.acks.free hkey10 (by decide) (by decide))
    have hz11 := hk11.size
    have hRl : R.length < 100 := by have := hP10.len; omega
    refine wr_call (vs := [.pointer (some ⟨bw2, 0, none⟩), .int .i64 id, SdV s]) rfl (noteR_ca hR11 (by have := hP10.k.size; omega) id s hsn hsd hsq hRl) rfl ?_
    rintro v w12 ⟨hres, hk12⟩
    have hwho12 := hwho11.keepR hk12
    have hkey12 := key_RD hkey11 hk12 (by decide) (by decide) (by decide)
    rcases hf3 with ⟨hno, hy, hA11⟩ | ⟨hyes, hy, A', hA11, hpl, hsub⟩
    · rcases hres with ⟨_, rfl, hR12⟩ | ⟨hyes, _⟩
      rotate_left
      · exact absurd hyes hno
      with_reducible (conv => enter [6, 1]; whnf)
      rw [hy]
      (repeat first | apply wr_end | apply wc_skip | (apply wr_cmp; (iterate 3 exact rfl); exact cmpF (by dsimp only [cmpN]; first | done | omega)) | (apply wc_false; exact rfl))
      exact ⟨by trivial, A, R, hP10.next hA11 (Sub.refl _ _) hk11 hR12 hk12 hP10.eq (by have := hP10.len; omega) hP10.uni hP10.tz, hwho12, hkey12, rfl, rfl, rfl, rfl, rfl, rfl, rfl, trivial⟩
    · rcases hres with ⟨hno, _⟩ | ⟨_, rfl, R', hR12, hg12, hl12⟩
      · exact absurd hyes hno
      with_reducible (conv => enter [6, 1]; whnf)
      rw [hy]
      have heq12 : ∀ x, getL (RL R') x = getL (PL A') x := fun x => by rw [hg12, hpl, getL_put, hP10.eq, hP10.eq]
      (repeat first | apply wr_end | apply wc_skip | (apply wr_cmp; (iterate 3 exact rfl); exact cmpF (by dsimp only [cmpN]; first | done | omega)) | (apply wc_false; exact rfl))
      refine ⟨by trivial, A', R', hP10.next hA11 hsub hk11 hR12 hk12 heq12 (by have := hP10.len; omega) ?_ ?_, hwho12, hkey12, rfl, rfl, rfl, rfl, rfl, rfl, rfl, trivial⟩
      · intro k hk
        rw [← PL_keys, hpl] at hk
        rcases putL_sub k hk with rfl | hk
        · rw [hsk]; exact hkin
        · rw [PL_keys] at hk
          exact hP10.uni k hk
      · intro x p hp id' hid'
        rw [hg12] at hp
        split at hp
        · cases hp
          have hz' : ((getL (RL R) s.1).getD PN.new).T id' = 0 := by
            cases hg : getL (RL R) s.1 with
            | none => rfl
            | some p0 => exact hP10.tz _ p0 hg id' hid'
          unfold noteP
          split
          · show setT _ id _ id' = 0
            unfold setT
            rw [if_neg (fun e => hid' (by rw [e]; exact hyes.2))]
            exact hz'
          · exact hz'
        · exact hP10.tz x p hp id' hid'
  rintro ds' f' w9 ⟨rfl, A', R', hP9, hwho9, hkey9, hs⟩
  rw [← setL_self f' _ hs.all]
  clear hs
  have hz9 := hP9.k.size
  have hRl : R'.length ≤ 61 := by have := hP9.len; omega
  (repeat first | (apply wr_move; exact rfl; with_reducible (conv => enter [6, 3]; whnf)) | apply wc_seq | apply wc_region)
  refine wr_call (vs := [.pointer (some ⟨ab, 0, none⟩)]) rfl (keys_ca hP9.acks hP9.few) rfl ?_
  rintro pv wa ⟨l, hperm, hsrt, hoa, hka⟩
  have hls := keys_same hP9.acks.nodup hP9.ref.sort hP9.eq hperm hsrt
  subst hls
  rw [List.length_map] at hoa
  have hPa := hP9.keepN hka
  have hza := hka.size
  (repeat first | (apply wr_move; exact rfl; with_reducible (conv => enter [6, 3]; whnf)) | (apply wr_assign; exact rfl; with_reducible (conv => enter [6, 3]; whnf)) | apply wr_end | apply wc_seq | apply wc_region)
  refine wr_call (vs := [.pointer (some ⟨bw2, 0, none⟩)]) rfl (keysR_ca hPa.ref) rfl ?_
  rintro qv wb ⟨hob, hkb⟩
  have hoa' := own_keep hoa hkb (fun _ _ h => h)
  have hPb := hPa.keepN hkb
  have hk9b := hka.trans hkb
  have hwhob := hwho9.keepN hk9b
  have hkeyb := hk9b.heap hkey9 (fun h => h)
  obtain ⟨pa, pc, rfl, hpat⟩ := own_row hoa'
  obtain ⟨qa, qc, rfl, hqat⟩ := own_row hob
  obtain ⟨ls, hls⟩ : ∃ ls, ls = leastP (getL (PL A') kk) wl := ⟨_, rfl⟩
  have hls1 : leastP ((getL A' kk).map (·.p)) wl = ls := by rw [← getPL, hls]
  have hls2 : leastP (getL (RL R') kk) wl = ls := by rw [hP9.eq, hls]
  have hkb0 : ∀ {w'}, Keeps NoB wb.drew w' → Keeps NoB wb w' := fun hk => (Keeps.refl NoB wb).drew.trans hk
  have hk0 : ∀ {w'}, Keeps NoB wb.drew w' → Keeps NoB wb w' := hkb0
  (repeat first | (apply wr_assign; exact rfl; with_reducible (conv => enter [6, 3]; whnf)) | apply wr_end | apply wc_seq)
  refine wc_drawP (l := _) 16 _ (by kernel_rfl) (by kernel_rfl) rfl (by kernel_rfl) (by kernel_rfl) (by decide) ?_
  apply chP_pure
  focus
    intro xx w' hk hF
    apply wr_move; exact rfl; with_reducible (conv => enter [6, 3]; whnf)
    apply wr_nil
    exact ⟨rfl, Keeps.refl _ _⟩
  focus (intro xx yy h; rfl)
  focus kernel_rfl
  apply chP_pure
  focus
    intro xx w' hk hF
    refine wr_len_slice rfl rfl ?_
    apply wr_nil
    exact ⟨rfl, Keeps.refl _ _⟩
  focus (intro xx yy h; rfl)
  focus kernel_rfl
  apply chP_pure
  focus
    intro xx w' hk hF
    apply wr_move; exact rfl; with_reducible (conv => enter [6, 3]; whnf)
    apply wr_nil
    exact ⟨rfl, Keeps.refl _ _⟩
  focus (intro xx yy h; rfl)
  focus kernel_rfl
  apply chP_pure
  focus
    intro xx w' hk hF
    refine wr_len_slice rfl rfl ?_
    apply wr_nil
    exact ⟨rfl, Keeps.refl _ _⟩
  focus (intro xx yy h; rfl)
  focus kernel_rfl
  apply chP_pure
  focus
    intro xx w' hk hF
    refine wr_cmp rfl rfl rfl (cmpF (by dsimp only [cmpN]; first | done | omega)) ?_
    apply wr_nil
    exact ⟨rfl, Keeps.refl _ _⟩
  focus (intro xx yy h; rfl)
  focus kernel_rfl
  apply chP_pure
  focus
    intro xx w' hk hF
    apply wr_move; exact rfl; with_reducible (conv => enter [6, 3]; whnf)
    apply wr_nil
    exact ⟨rfl, Keeps.refl _ _⟩
  focus (intro xx yy h; rfl)
  focus kernel_rfl
  apply chP_pure
  focus
    intro xx w' hk hF
    apply wr_move; exact rfl; with_reducible (conv => enter [6, 3]; whnf)
    apply wr_nil
    exact ⟨rfl, Keeps.refl _ _⟩
  focus (intro xx yy h; rfl)
  focus kernel_rfl
  apply chP_pure
  focus
    intro xx w' hk hF
    refine wr_loadAll (cs := [.int .i64 kk.1, S kk.2]) rfl rfl rfl ((hk0 hk).heap hkeyb (fun h => h)) rfl ?_
    apply wr_nil
    exact ⟨rfl, Keeps.refl _ _⟩
  focus (intro xx yy h; rfl)
  focus kernel_rfl
  apply chP_pure
  focus
    intro xx w' hk hF
    apply wr_move; exact rfl; with_reducible (conv => enter [6, 3]; whnf)
    apply wr_nil
    exact ⟨rfl, Keeps.refl _ _⟩
  focus (intro xx yy h; rfl)
  focus kernel_rfl
  apply chP_pure
  focus
    intro xx w' hk hF
    refine wr_call (vs := [.pointer (some ⟨ab, 0, none⟩), encK kk, wv]) rfl (least_ca (hPb.acks.keep (hk0 hk)) kk wl wv (hwhob.keepN (hk0 hk)).row hwhob.len) rfl ?_
    rintro v w'' ⟨rfl, hkc⟩
    rw [hls1]
    apply wr_nil
    exact ⟨rfl, hkc⟩
  focus (intro xx yy h; rfl)
  focus kernel_rfl
  apply chP_pure
  focus
    intro xx w' hk hF
    apply wr_move; exact rfl; with_reducible (conv => enter [6, 3]; whnf)
    apply wr_nil
    exact ⟨rfl, Keeps.refl _ _⟩
  focus (intro xx yy h; rfl)
  focus kernel_rfl
  apply chP_pure
  focus
    intro xx w' hk hF
    refine wr_loadAll (cs := [.int .i64 kk.1, S kk.2]) rfl rfl rfl ((hk0 hk).heap hkeyb (fun h => h)) rfl ?_
    apply wr_nil
    exact ⟨rfl, Keeps.refl _ _⟩
  focus (intro xx yy h; rfl)
  focus kernel_rfl
  apply chP_pure
  focus
    intro xx w' hk hF
    apply wr_move; exact rfl; with_reducible (conv => enter [6, 3]; whnf)
    apply wr_nil
    exact ⟨rfl, Keeps.refl _ _⟩
  focus (intro xx yy h; rfl)
  focus kernel_rfl
  apply chP_pure
  focus
    intro xx w' hk hF
    refine wr_call (vs := [.pointer (some ⟨bw2, 0, none⟩), encK kk, wv]) rfl (leastR_ca (hPb.ref.keepN (hk0 hk)) hPb.tzn kk wl wv (hwhob.keepN (hk0 hk)).row hwhob.len) rfl ?_
    rintro v w'' ⟨rfl, hkc⟩
    rw [hls2]
    apply wr_nil
    exact ⟨rfl, hkc⟩
  focus (intro xx yy h; rfl)
  focus kernel_rfl
  apply chP_pure
  focus
    intro xx w' hk hF
    refine wr_cmp rfl rfl rfl (cmpF (by dsimp only [cmpN]; first | done | omega)) ?_
    apply wr_nil
    exact ⟨rfl, Keeps.refl _ _⟩
  focus (intro xx yy h; rfl)
  focus kernel_rfl
  apply chP_pure
  focus
    intro xx w' hk hF
    apply wr_pick (t := false); (iterate 2 exact rfl); with_reducible (conv => enter [6, 3]; whnf)
    apply wr_nil
    exact ⟨rfl, Keeps.refl _ _⟩
  focus (intro xx yy h; rfl)
  focus kernel_rfl
  refine chP_nil ?_
  intro xx wc hkc' hF
  have hkc := hk0 hkc'
  clear hF
  have hPc := hPb.keepN hkc
  (repeat first | (apply wr_assign; exact rfl; with_reducible (conv => enter [6, 3]; whnf)) | apply wr_end | apply wc_seq | apply wc_region | apply wc_skip | apply wc_block | (apply wc_false; exact rfl))
  refine wc_loopL (α := Nat) (fun j => [(0, .slice (some ⟨vb, vo, none⟩) dl.length vc), (3, .bool true), (4, .pointer (some ⟨ab, 0, none⟩)), (5, .pointer (some ⟨bw2, 0, none⟩)), (6, .int .i64 (i : Int)), (17, .slice pa R'.length pc), (18, .slice qa R'.length qc), (19, .int .i64 (j : Int))])
    (fun j ds w' => ds = [] ∧ j ≤ R'.length ∧ Keeps NoB wc w') (fun j => R'.length - j) 0
    ⟨rfl, Nat.zero_le _, Keeps.refl _ _⟩ ⟨rfl, rfl, rfl, rfl, rfl, rfl, rfl, rfl, trivial⟩ ?_
  rintro j ds f1 wd ⟨rfl, hj, hkd⟩
  by_cases hjl : j < R'.length
  · obtain ⟨n, hn⟩ : ∃ n, R'[j]? = some n := ⟨R'[j], by simp [hjl]⟩
    have hx : (R'.map (·.k))[j]? = some n.k := by rw [List.getElem?_map, hn]; rfl
    obtain ⟨pb, pcur, rfl, _, hpb, hpr⟩ := hpat (by omega)
    obtain ⟨qb, qcur, rfl, _, hqb, hqr⟩ := hqat (by omega)
    have hkbd := hkc.trans hkd
    have hpb1 := hkbd.heap hpb (fun h => h)
    have hqb1 := hkbd.heap hqb (fun h => h)
    have hpc : ∀ r v, r < 2 → (GK n.k)[r]? = some v → pcur[0 + j * 2 + r]? = some v := fun r v hr hv => by
      have := hpr (j * 2 + r) (by omega)
      rw [Nat.zero_add, this, flat_get GK_len _ j _ r hx hr, hv]
    have hqc : ∀ r v, r < 2 → (GK n.k)[r]? = some v → qcur[0 + j * 2 + r]? = some v := fun r v hr hv => by
      have := hqr (j * 2 + r) (by omega)
      rw [Nat.zero_add, this, flat_get GK_len _ j _ r hx hr, hv]
    have hky : ∀ {w'}, Keeps NoB wd.drew w' → Keeps NoB wd w' := fun hk => (Keeps.refl NoB wd).drew.trans hk
    (repeat first | (apply wr_move; exact rfl; with_reducible (conv => enter [6, 3]; whnf)) | apply wr_end | apply wc_seq | apply wc_region | apply wc_skip | apply wc_block | (apply wr_len_slice; iterate 2 exact rfl) | (apply wr_cmp; (iterate 3 exact rfl); exact cmpT (by dsimp only [cmpP]; first | done | omega)) | (apply wc_true; exact rfl))
    refine wc_drawP (l := _) 9 _ (by kernel_rfl) (by kernel_rfl) rfl (by kernel_rfl) (by kernel_rfl) (by decide) ?_
    apply chP_pure
    focus
      intro xx w' hk hF
      apply wr_move; exact rfl; with_reducible (conv => enter [6, 3]; whnf)
      apply wr_nil
      exact ⟨rfl, Keeps.refl _ _⟩
    focus (intro xx yy h; rfl)
    focus kernel_rfl
    apply chP_pure
    focus
      intro xx w' hk hF
      apply wr_move; exact rfl; with_reducible (conv => enter [6, 3]; whnf)
      apply wr_nil
      exact ⟨rfl, Keeps.refl _ _⟩
    focus (intro xx yy h; rfl)
    focus kernel_rfl
    apply chP_pure
    focus
      intro xx w' hk hF
      refine wr_indexAddr (i := j) rfl rfl rfl hjl ?_
      apply wr_nil
      exact ⟨rfl, Keeps.refl _ _⟩
    focus (intro xx yy h; rfl)
    focus kernel_rfl
    apply chP_pure
    focus
      intro xx w' hk hF
      refine wr_loadAgg (cs := [.int .i64 n.k.1, S n.k.2]) rfl rfl rfl rfl (fun j u h => by match j, h with | 0, h => cases h; exact cell_of_heap ((hky hk).heap hpb1 (fun h => h)) (hpc 0 _ (by decide) rfl) | 1, h => cases h; exact cell_of_heap ((hky hk).heap hpb1 (fun h => h)) (hpc 1 _ (by decide) rfl) | j + 2, h => simp at h) ?_
      apply wr_nil
      exact ⟨rfl, Keeps.refl _ _⟩
    focus (intro xx yy h; rfl)
    focus kernel_rfl
    apply chP_pure
    focus
      intro xx w' hk hF
      apply wr_move; exact rfl; with_reducible (conv => enter [6, 3]; whnf)
      apply wr_nil
      exact ⟨rfl, Keeps.refl _ _⟩
    focus (intro xx yy h; rfl)
    focus kernel_rfl
    apply chP_pure
    focus
      intro xx w' hk hF
      apply wr_move; exact rfl; with_reducible (conv => enter [6, 3]; whnf)
      apply wr_nil
      exact ⟨rfl, Keeps.refl _ _⟩
    focus (intro xx yy h; rfl)
    focus kernel_rfl
    apply chP_pure
    focus
      intro xx w' hk hF
      refine wr_indexAddr (i := j) rfl rfl rfl hjl ?_
      apply wr_nil
      exact ⟨rfl, Keeps.refl _ _⟩
    focus (intro xx yy h; rfl)
    focus kernel_rfl
    apply chP_pure
    focus
      intro xx w' hk hF
      refine wr_loadAgg (cs := [.int .i64 n.k.1, S n.k.2]) rfl rfl rfl rfl (fun j u h => by match j, h with | 0, h => cases h; exact cell_of_heap ((hky hk).heap hqb1 (fun h => h)) (hqc 0 _ (by decide) rfl) | 1, h => cases h; exact cell_of_heap ((hky hk).heap hqb1 (fun h => h)) (hqc 1 _ (by decide) rfl) | j + 2, h => simp at h) ?_
      apply wr_nil
      exact ⟨rfl, Keeps.refl _ _⟩
    focus (intro xx yy h; rfl)
    focus kernel_rfl
    apply chP_pure
    focus
      intro xx w' hk hF
      refine wr_structNe (c := false) rfl rfl rfl key_stood kguard (keqOk n.k n.k _) (by simp) ?_
      apply wr_nil
      exact ⟨rfl, Keeps.refl _ _⟩
    focus (intro xx yy h; rfl)
    focus kernel_rfl
    refine chP_nil ?_
    intro xx we hke' hF
    have hke := hky hke'
    clear hF
    (repeat first | (apply wr_move; exact rfl; with_reducible (conv => enter [6, 3]; whnf)) | (apply wr_assign; exact rfl; with_reducible (conv => enter [6, 3]; whnf)) | apply wr_end | apply wc_region | apply wc_skip | (apply wr_add; (iterate 3 exact rfl); exact w_fit (by dsimp only [kIn]; first | done | omega)) | (apply wc_false; exact rfl))
    exact ⟨j + 1, by omega, ⟨by trivial, hjl, hkd.trans hke⟩, rfl, rfl, rfl, rfl, rfl, rfl, rfl, rfl, trivial⟩
  (repeat first | (apply wr_move; exact rfl; with_reducible (conv => enter [6, 3]; whnf)) | (apply wr_assign; exact rfl; with_reducible (conv => enter [6, 3]; whnf)) | apply wr_end | apply wc_seq | apply wc_region | (apply wr_len_slice; iterate 2 exact rfl) | (apply wr_cmp; (iterate 3 exact rfl); exact cmpF (by dsimp only [cmpN]; first | done | omega)) | (apply wr_add; (iterate 3 exact rfl); exact w_fit (by dsimp only [kIn]; first | done | omega)) | (apply wc_false; exact rfl) | (apply wc_exit; try simp only [thenE, inBlockE, bodyQ, ↓reduceIte, Nat.reduceEqDiff]))
  exact ⟨(i + 1, A', R'), by dsimp only; omega, ⟨by trivial, by omega, hPc.keepN hkd⟩, rfl, rfl, rfl, rfl, rfl, trivial⟩
end Go.Proofs.YtjaojihogmnjhaaGreatDoor
