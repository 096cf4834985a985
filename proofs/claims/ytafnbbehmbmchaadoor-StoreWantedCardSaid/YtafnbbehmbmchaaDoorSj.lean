/- norialaw12.examples. -/
import Derived.Test.YtafnbbehmbmchaaDoorSi
namespace Go.Proofs.YtafnbbehmbmchaaDoor
open Go Go.V Go.RowKit
set_option linter.unusedVariables false
set_option linter.unusedSimpArgs false

theorem run_partAgg {P : Program} {w : World} {t : TypeId} {D : TypeDesc} {z : Value} {k by' : Nat} {cs : Array Value} {o : Nat} (U : P.underlying t = some D) (hD : isAggD D = true) (I : Info P t z k by') : (part t cs o).run P w = .ok (.agg (cs.extract o (o + k))) w := by
  unfold part
  have := run_isAgg' (P := P) (w := w) (t := t) (d := D) ⟨U⟩
  simp only [Sem.run_bind, this, Result.andThen_ok, hD, if_true, run_sizeOf' I, Sem.run_pure]
theorem rd_stood : Tryd.prog.stoodInHeld 30 = false := by kernel_rfl
theorem rd_eqOk (x y : RD) (w : World) : EqOk Tryd.prog w 9999 (GRd x).toArray (GRd y).toArray
    [⟨"Key", 28, 0, true, "", "", 0⟩, ⟨"Seq", 26, 2, false, "", "", 24⟩, ⟨"Gone", 4, 3, false, "", "", 32⟩, ⟨"Body", 9, 4, false, "", "", 40⟩]
    [decide (keyR x = keyR y), decide (((x.2.2.1 : Nat) : Int) = ((y.2.2.1 : Nat) : Int)), x.2.2.2.1 == y.2.2.2.1, decide (x.2.2.2.2 = y.2.2.2.2)] :=
  ⟨⟨by decide, _, _, run_partAgg Tryd.underlying28 rfl inferInstance, run_partAgg Tryd.underlying28 rfl inferInstance, key_eqIn 9997 (keyR x) (keyR y) w⟩,
   ⟨by decide, _, _, run_part1 Tryd.underlying26 rfl rfl, run_part1 Tryd.underlying26 rfl rfl, equalIn_int 9998 inferInstance _ _ _⟩,
   ⟨by decide, _, _, run_part1 Tryd.underlying4 rfl rfl, run_part1 Tryd.underlying4 rfl rfl, equalIn_bool 9998 Tryd.underlying4 _ _⟩,
   ⟨by decide, _, _, run_part1 Tryd.underlying9 rfl rfl, run_part1 Tryd.underlying9 rfl rfl, equalIn_str 9998 inferInstance _ _ _⟩, trivial⟩
theorem rd_all (x y : RD) : ([decide (keyR x = keyR y), decide (((x.2.2.1 : Nat) : Int) = ((y.2.2.1 : Nat) : Int)), x.2.2.2.1 == y.2.2.2.1, decide (x.2.2.2.2 = y.2.2.2.2)].all id) = decide (x = y) := by
  obtain ⟨a, b, c, d, e⟩ := x
  obtain ⟨a', b', c', d', e'⟩ := y
  rw [Bool.eq_iff_iff]
  simp [keyR, Prod.mk.injEq, and_assoc, Int.natCast_inj]
def exR : RD := (1, [97], 2, false, [120])
def exB : RD := (1, [98], 1, false, [])
theorem exR_ok : rightOk exR := by decide +kernel
theorem exB_ok : rightOk exB := by decide +kernel
theorem exK_ok : keyOk (1, [97]) := by decide +kernel
theorem ty_ne {w : World} {a b : Nat} {c c' : Array Value} {T T' : TypeId} {fr fr' : Nat × Nat} (h : w.heap[a]? = some (.cells c T fr)) (h' : w.heap[b]? = some (.cells c' T' fr')) (ht : T ≠ T') : a ≠ b := by
  rintro rfl
  rw [h] at h'
  injection h' with h'
  injection h' with _ h2
  exact ht h2
theorem rd_guard : Tryd.prog.eqGuardType Tryd.prog.depth 30 = false := by kernel_rfl
set_option maxRecDepth 100000 in
set_option maxHeartbeats 4000000 in
theorem examples_ca (w : World) : Ca Tryd.prog 9 #[] w fun v w' => v = .bool true ∧ Keeps NoB w w' := by
  refine ca_of_body (args := []) Tryd.func9 rfl (by kernel_rfl) ?_
  (repeat first | (apply wr_assign; exact rfl; with_reducible (conv => enter [6, 3]; whnf)) | apply wr_end | apply wc_seq | apply wc_region)
  refine wr_call (vs := [.int .i64 1, .int .u64 2]) rfl (new_ca 1 (by decide) 2 w) rfl ?_
  rintro v w1 ⟨sb, kb, wb, rfl, h1, hk1, hs1, hs2, hs3⟩
  have hro : roomOf 1 = 1 := by decide
  rw [hro] at h1
  (repeat first | (apply wr_move; exact rfl; with_reducible (conv => enter [6, 3]; whnf)) | (apply wr_assign; exact rfl; with_reducible (conv => enter [6, 3]; whnf)) | apply wr_end | apply wc_seq | apply wc_region)
  refine wr_ptrNil rfl rfl ?_
  (repeat first | apply wr_end | apply wc_seq | apply wc_region | apply wc_skip | (apply wc_false; exact rfl))
  refine wr_build (ps := [(0, .int .i64 1), (1, S [97])]) (cs := [.int .i64 1, S [97]]) rfl rfl rfl rfl ?_
  (repeat first | (apply wr_alloc; exact rfl))
  refine wr_storeAll (cs := [.int .i64 1, S [97]]) rfl rfl rfl (by intro u hu; simp at hu; rcases hu with rfl | rfl <;> rfl) (heap_alloc_same _ _) rfl rfl ?_
  refine wr_name ?_
  intro w2 hw2
  obtain ⟨b2, hb2⟩ : ∃ b, b = w1.heap.size := ⟨_, rfl⟩
  have hk2 : Keeps NoB w1 w2 := by rw [hw2]; exact ((Keeps.refl NoB w1).alloc _).put _ (fun h => by omega)
  have hc2 : w2.heap[b2]? = some (.cells #[.int .i64 1, S [97]] 28 (0, 0)) := by rw [hw2, hb2]; exact World.putObj_heap_same (by simp)
  rw [← hb2]
  clear hw2
  (repeat first | apply wr_end | apply wc_seq | apply wc_region)
  refine wr_loadAll (cs := [.int .i64 1, S [97]]) rfl rfl rfl hc2 rfl ?_
  refine wr_build (ps := [(0, .agg #[.int .i64 1, S [97]]), (1, .int .u64 2), (3, S [120])]) (cs := GRd exR) rfl rfl rfl rfl ?_
  (repeat first | (apply wr_alloc; exact rfl))
  refine wr_storeAll (cs := GRd exR) rfl rfl rfl (GRd_one _) (heap_alloc_same _ _) rfl rfl ?_
  refine wr_name ?_
  intro w3 hw3
  obtain ⟨b3, hb3⟩ : ∃ b, b = w2.heap.size := ⟨_, rfl⟩
  have hk3 : Keeps NoB w2 w3 := by rw [hw3]; exact ((Keeps.refl NoB w2).alloc _).put _ (fun h => by omega)
  have hc3 : w3.heap[b3]? = some (.cells (GRd exR).toArray 30 (0, 0)) := by rw [hw3, hb3]; exact World.putObj_heap_same (by simp)
  rw [← hb3]
  clear hw3
  have h3 := h1.keep (hk2.trans hk3)
  have hlb2 := lt_of_heap hc2
  have hlb3 := lt_of_heap hc3
  have hlkb := h1.kept.lt
  have hlsb := lt_of_heap h1.cells
  have hsz2 := hk2.size
  have hsz3 := hk3.size
  (repeat first | (apply wr_move; exact rfl; with_reducible (conv => enter [6, 3]; whnf)) | apply wr_end | apply wc_seq | apply wc_region)
  refine wr_loadAll (cs := GRd exR) rfl rfl rfl hc3 rfl ?_
  refine wr_call (vs := [.pointer (some ⟨sb, 0, none⟩), RdV exR, .int .u64 0]) rfl (put_ca h3 exR 0 (fun _ => .inl (by decide)) (fun x hx => by cases hx) (by decide) (by decide)) rfl ?_
  have hE1 : putE 1 [] exR = 0 := by unfold putE; rw [if_pos exR_ok]; rfl
  rintro v w4 ⟨rfl, ⟨hne, _⟩ | ⟨_, eb, hge4, h4, hk4⟩⟩
  · exact absurd hE1 hne
  rw [hE1]
  have hKL : putL ([] : KL) (keyR exR) (eb, (exR, decide (wantP (fun _ => 0) (keyR exR) = 0), 0)) = [((1, [97]), (eb, (exR, decide (wantP (fun _ => 0) (keyR exR) = 0), 0)))] := rfl
  rw [hKL] at h4
  obtain ⟨xi, hxi⟩ : ∃ b, b = decide (wantP (fun _ => 0) (keyR exR) = 0) := ⟨_, rfl⟩
  rw [← hxi] at h4
  clear hKL hxi
  have hc4 := hk4.heap hc3 (fun e => by omega)
  (repeat first | (apply wr_move; exact rfl; with_reducible (conv => enter [6, 3]; whnf)) | (apply wr_assign; exact rfl; with_reducible (conv => enter [6, 3]; whnf)) | apply wr_end | apply wc_seq | apply wc_region)
  refine wr_loadAll (cs := GRd exR) rfl rfl rfl hc4 rfl ?_
  refine wr_call (vs := [.pointer (some ⟨sb, 0, none⟩), RdV exR, .int .u64 0]) rfl (put_ca h4 exR 0 (fun hg => by simp [getL, keyR, exR] at hg) (fun x hx => by simp at hx; subst hx; simp) (by decide) (by decide)) rfl ?_
  have hE2 : putE 1 [((1, [97]), (eb, (exR, xi, 0)))] exR = 6 := by unfold putE; rw [if_pos exR_ok]; rfl
  rintro v w5 ⟨rfl, ⟨_, hk5⟩ | ⟨he, _⟩⟩
  rotate_left
  · rw [hE2] at he; exact absurd he (by decide)
  rw [hE2]
  have h5 := h4.keep hk5
  have hkb2 : b2 ≠ kb := by omega
  have hkb3 : b3 ≠ kb := by omega
  have hc5k := hk5.heap (hk4.heap (hk3.heap hc2 (fun h => h)) (fun e => hkb2 e)) (fun h => h)
  (repeat first | (apply wr_move; exact rfl; with_reducible (conv => enter [6, 3]; whnf)) | (apply wr_assign; exact rfl; with_reducible (conv => enter [6, 3]; whnf)) | apply wr_end | apply wc_seq | apply wc_region)
  refine wr_loadAll (cs := [.int .i64 1, S [97]]) rfl rfl rfl hc5k rfl ?_
  refine wr_call (vs := [.pointer (some ⟨sb, 0, none⟩), encK (1, [97])]) rfl (get_ca h5 (1, [97])) rfl ?_
  rintro v w6 ⟨rfl, hk6⟩
  have hG : getL [(((1 : Int), ([97] : TT)), (eb, (exR, xi, 0)))] (1, [97]) = some (eb, (exR, xi, 0)) := by simp [getL]
  rw [hG]
  dsimp only [gotR, Option.isSome]
  (repeat first | (apply wr_move; exact rfl; with_reducible (conv => enter [6, 3]; whnf)) | (apply wr_alloc; exact rfl) | (apply wr_extract; (iterate 3 exact rfl); with_reducible (conv => enter [6, 3]; whnf)))
  refine wr_storeAll (cs := GRd exR) rfl rfl rfl (GRd_one _) (heap_alloc_same _ _) rfl rfl ?_
  refine wr_name ?_
  intro w7 hw7
  obtain ⟨b7, hb7⟩ : ∃ b, b = w6.heap.size := ⟨_, rfl⟩
  have hk7 : Keeps NoB w6 w7 := by rw [hw7]; exact ((Keeps.refl NoB w6).alloc _).put _ (fun h => by omega)
  have hc7 : w7.heap[b7]? = some (.cells (GRd exR).toArray 30 (0, 0)) := by rw [hw7, hb7]; exact World.putObj_heap_same (by simp)
  rw [← hb7]
  clear hw7
  have h7 := h5.keep (hk6.trans hk7)
  have hk57 := hk6.trans hk7
  have hc7k := hk57.heap hc5k (fun h => h)
  have hc7r := hk57.heap (hk5.heap hc4 (fun h => h)) (fun h => h)
  (repeat first | (apply wr_move; exact rfl; with_reducible (conv => enter [6, 3]; whnf)) | (apply wr_assign; exact rfl; with_reducible (conv => enter [6, 3]; whnf)) | apply wr_end | apply wc_seq | apply wc_region)
  refine wr_loadAll (cs := [.int .i64 1, S [97]]) rfl rfl rfl hc7k rfl ?_
  refine wr_call (vs := [.pointer (some ⟨sb, 0, none⟩), encK (1, [97]), .int .i64 1]) rfl (watch_ca h7 (1, [97]) (by decide) 1 (by decide)) rfl ?_
  have hwo : watchOk (fun _ => 0) (1, [97]) 1 := ⟨exK_ok, by decide, by decide⟩
  rintro v w8 (⟨_, rfl, h8, hk8⟩ | ⟨hn, _⟩)
  rotate_left
  · exact absurd hwo hn
  obtain ⟨M8, hM8, _⟩ := h7.watch
  have hwb : ∀ {q T fr c}, w7.heap[q]? = some (.cells c T fr) → q ≠ wb := fun h => map_cells hM8 h
  have hc8k := hk8.heap hc7k (hwb hc7k)
  have hc8r := hk8.heap hc7r (hwb hc7r)
  have hc8g := hk8.heap hc7 (hwb hc7)
  obtain ⟨W8, hW8⟩ : ∃ W, W = setW (fun _ => 0) (1, [97]) ((fun _ => (0 : Int)) (1, [97]) + 1) := ⟨_, rfl⟩
  rw [← hW8] at h8
  have hw8 : wantP W8 (1, [97]) = 1 := by
    unfold wantP
    rw [if_pos exK_ok, if_neg (by decide), hW8]
    decide
  clear hW8
  have hall : AllWanted [((1, [97]), (eb, (exR, xi, 0)))] W8 := by
    intro x hx
    simp only [List.mem_singleton] at hx
    subst hx
    rw [hw8]; decide
  (repeat first | (apply wr_move; exact rfl; with_reducible (conv => enter [6, 3]; whnf)) | (apply wr_assign; exact rfl; with_reducible (conv => enter [6, 3]; whnf)) | apply wr_end | apply wc_seq | apply wc_region)
  refine wr_build (ps := [(0, .int .i64 1), (1, S [98])]) (cs := [.int .i64 1, S [98]]) rfl rfl rfl rfl ?_
  refine wr_build (ps := [(0, .agg #[.int .i64 1, S [98]]), (1, .int .u64 1)]) (cs := GRd exB) rfl rfl rfl rfl ?_
  refine wr_call (vs := [.pointer (some ⟨sb, 0, none⟩), RdV exB, .int .u64 5]) rfl (put_ca h8 exB 5 (fun _ => .inr hall) (fun x hx => by simp at hx; subst hx; simp) (by decide) (by decide)) rfl ?_
  have hE3 : putE 1 [((1, [97]), (eb, (exR, xi, 0)))] exB = 4 := by unfold putE; rw [if_pos exB_ok]; rfl
  rintro v w9 ⟨rfl, ⟨_, hk9⟩ | ⟨he, _⟩⟩
  rotate_left
  · rw [hE3] at he; exact absurd he (by decide)
  rw [hE3]
  have h9 := h8.keep hk9
  (repeat first | (apply wr_move; exact rfl; with_reducible (conv => enter [6, 3]; whnf)) | (apply wr_assign; exact rfl; with_reducible (conv => enter [6, 3]; whnf)) | apply wr_end | apply wc_seq | apply wc_region)
  refine wr_call (vs := [.pointer (some ⟨sb, 0, none⟩), .int .u64 9]) rfl (sweep1_ca h9 (by rw [hw8]; decide) (by simp) 9) rfl ?_
  rintro v w10 ⟨rfl, h10, hk10⟩
  have hge := h9.ents _ (List.mem_singleton_self _)
  have hc9k := hk9.heap hc8k (fun h => h)
  have hc9r := hk9.heap hc8r (fun h => h)
  have hc9g := hk9.heap hc8g (fun h => h)
  have hc10k := hk10.heap hc9k (ty_ne hc9k hge (by decide))
  have hc10r := hk10.heap hc9r (ty_ne hc9r hge (by decide))
  have hc10g := hk10.heap hc9g (ty_ne hc9g hge (by decide))
  (repeat first | (apply wr_move; exact rfl; with_reducible (conv => enter [6, 3]; whnf)) | (apply wr_assign; exact rfl; with_reducible (conv => enter [6, 3]; whnf)) | apply wr_end | apply wc_seq | apply wc_region | (apply wr_cmp; (iterate 3 exact rfl); exact cmpT (by dsimp only [cmpP]; first | done | omega)) | (apply wr_pick (t := true); (iterate 2 exact rfl); with_reducible (conv => enter [6, 3]; whnf)))
  refine wr_loadAll (cs := GRd exR) rfl rfl rfl hc10g rfl ?_
  refine wr_loadAll (cs := GRd exR) rfl rfl rfl hc10r rfl ?_
  refine wr_structEq (c := true) rfl rfl rfl rd_stood rd_guard (rd_eqOk exR exR _) (by simp) ?_
  (repeat first | (apply wr_move; exact rfl; with_reducible (conv => enter [6, 3]; whnf)) | (apply wr_cmp; (iterate 3 exact rfl); exact cmpT (by dsimp only [cmpP]; first | done | omega)) | (apply wr_pick (t := true); (iterate 2 exact rfl); with_reducible (conv => enter [6, 3]; whnf)))
  refine wr_loadAll (cs := [.int .i64 1, S [97]]) rfl rfl rfl hc10k rfl ?_
  refine wr_call (vs := [.pointer (some ⟨sb, 0, none⟩), encK (1, [97])]) rfl (wanted_ca h10 (1, [97]) (by decide)) rfl ?_
  rintro v w11 ⟨rfl, hk11⟩
  rw [hw8]
  have h11 := h10.keep hk11
  (repeat first | (apply wr_move; exact rfl; with_reducible (conv => enter [6, 3]; whnf)) | (apply wr_len_slice; iterate 2 exact rfl) | (apply wr_cmp; (iterate 3 exact rfl); exact cmpT (by dsimp only [cmpP]; first | done | omega)) | (apply wr_pick (t := true); (iterate 2 exact rfl); with_reducible (conv => enter [6, 3]; whnf)))
  refine wr_call (vs := [.pointer (some ⟨sb, 0, none⟩)]) rfl (len_ca h11) rfl ?_
  rintro v w12 ⟨rfl, rfl⟩
  dsimp only [List.length_cons, List.length_nil]
  (repeat first | (apply wr_move; exact rfl; with_reducible (conv => enter [6, 3]; whnf)) | (apply wr_cmp; (iterate 3 exact rfl); exact cmpT (by dsimp only [cmpP]; first | done | omega)) | (apply wr_pick (t := true); (iterate 2 exact rfl); with_reducible (conv => enter [6, 3]; whnf)))
  refine wr_call (vs := [.pointer (some ⟨sb, 0, none⟩), .int .i64 1]) rfl (list_ca 1 sortsR1 h11 1 (by simp) (by simp [listR, idlF])) rfl ?_
  rintro v w13 ⟨l, hl, _, hown, hk13⟩
  have hll : l.length = 1 := by rw [hl.length_eq]; simp [listR, idlF]
  obtain ⟨a, c, rfl⟩ := own_sl hown
  rw [hll]
  (repeat first | (apply wr_assign; exact rfl; with_reducible (conv => enter [6, 3]; whnf)) | apply wr_end | (apply wr_len_slice; iterate 2 exact rfl) | (apply wr_cmp; (iterate 3 exact rfl); exact cmpT (by dsimp only [cmpP]; first | done | omega)) | (apply wr_pick (t := true); (iterate 2 exact rfl); with_reducible (conv => enter [6, 3]; whnf)) | (apply wc_ret; try simp only [thenE, inBlockE, bodyQ]))
  refine leave1 (v := .bool true) rfl rfl ⟨rfl, ?_⟩
  have hsz1 := hk1.size
  have hk13w := (hk1.trans hk2).trans hk3
  have hk14 := hk13w.trans' hk4 (fun i hi e => by omega)
  have hk17 := (hk14.trans hk5).trans hk57
  have hk18 := hk17.trans' hk8 (fun i hi e => by omega)
  have hk110 := (hk18.trans hk9).trans' hk10 (fun i hi e => by have : i = eb := e; omega)
  exact (hk110.trans hk11).trans hk13
def I8 (l : List Int) : List Value := l.map fun z => .int .i8 z
theorem I8_len (l : List Int) : (I8 l).length = l.length := by simp [I8]
/-- A thing: a resource, whether it is taken by its parts, a name. -/
abbrev TH := RD × Bool × Nat
def GTh (x : TH) : List Value := GRd x.1 ++ [.bool x.2.1, .int .u8 ((x.2.2 : Nat) : Int)]
theorem GTh_len (x : TH) : (GTh x).length = 7 := rfl
def thOk (x : TH) : Prop := (-9223372036854775808 ≤ x.1.1 ∧ x.1.1 ≤ 9223372036854775807) ∧ x.1.2.1.length ≤ 9223372036854775807 ∧ x.1.2.2.1 ≤ 18446744073709551615 ∧ x.1.2.2.2.2.length ≤ 9223372036854775807 ∧ x.2.2 < 256
end Go.Proofs.YtafnbbehmbmchaaDoor
