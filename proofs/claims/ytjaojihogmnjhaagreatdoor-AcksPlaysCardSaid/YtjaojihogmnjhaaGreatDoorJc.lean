/- The reference's notes in memory: RefA; find. -/
import Derived.Test.YtjaojihogmnjhaaGreatDoorJb
import Derived.Test.YtjaojihogmnjhaaGreatDoorVL
namespace Go.Proofs.YtjaojihogmnjhaaGreatDoor
open Go Go.V Go.RowKit
set_option linter.unusedVariables false
set_option linter.unusedSimpArgs false

abbrev NTT : TypeId := 73
abbrev RBT : TypeId := 75
abbrev RAT : TypeId := 29
structure RN where
  k : KY
  v : Value
  p : PN
def TK (T : Int → Nat) : List Value := (List.range 33).map fun i : Nat => .int .u64 ((T (i : Int) : Nat) : Int)
theorem TK_len (T : Int → Nat) : (TK T).length = 33 := by simp [TK]
theorem TK_get (T : Int → Nat) {i : Nat} (h : i < 33) : (TK T)[i]? = some (.int .u64 ((T (i : Int) : Nat) : Int)) := by
  unfold TK
  rw [List.getElem?_map, List.getElem?_range h]; rfl
def GN (n : RN) : List Value := .int .i64 n.k.1 :: S n.k.2 :: (TK n.p.T ++ [.int .u64 ((n.p.told : Nat) : Int), n.v])
theorem GN_len (n : RN) : (GN n).length = 37 := by
  unfold GN
  rw [List.length_cons, List.length_cons, List.length_append, TK_len]; rfl
theorem GN_T (n : RN) {i : Nat} (h : i < 33) : (GN n)[2 + i]? = some (.int .u64 ((n.p.T (i : Int) : Nat) : Int)) := by
  unfold GN
  rw [show 2 + i = i + 1 + 1 by omega, List.getElem?_cons_succ, List.getElem?_cons_succ, List.getElem?_append_left (by rw [TK_len]; exact h), TK_get _ h]
theorem GN_told (n : RN) : (GN n)[35]? = some (.int .u64 ((n.p.told : Nat) : Int)) := by
  unfold GN
  rw [show 35 = 33 + 1 + 1 by rfl, List.getElem?_cons_succ, List.getElem?_cons_succ, List.getElem?_append_right (by rw [TK_len]; exact Nat.le_refl _), TK_len]; rfl
theorem GN_v (n : RN) : (GN n)[36]? = some n.v := by
  unfold GN
  rw [show 36 = 34 + 1 + 1 by rfl, List.getElem?_cons_succ, List.getElem?_cons_succ, List.getElem?_append_right (by rw [TK_len]; decide), TK_len]; rfl
/-- A cell of an element written. -/
theorem ownS_put {α : Type} {G : α → List Value} {k : Nat} (hG : ∀ a, (G a).length = k) {w : World} {base n g o c i r : Nat} {T : TypeId} {l : List α} {x x' : α} {u : Value} {cur : Array Value} (h : OwnS w base T k (.slice (some ⟨g, o, none⟩) n c) n (l.flatMap G)) (hl : l.length = n) (hg : w.heap[g]? = some (.cells cur T (0, 0))) (hx : l[i]? = some x) (hr : r < k) (he : ∀ j, j ≠ r → (G x')[j]? = (G x)[j]?) (hv : (G x')[r]? = some u) :
    OwnS (w.putObj g (.cells (cur.setIfInBounds (o + i * k + r) u) T (0, 0))) base T k (.slice (some ⟨g, o, none⟩) n c) n ((l.set i x').flatMap G) := by
  have hi := (List.getElem?_eq_some_iff.1 hx).1
  have hkp : 0 < k := by omega
  obtain ⟨hxl, ⟨h0, _⟩ | ⟨g', o', cap, cur', he', hb, hgc, hn, hm, hs, ht⟩⟩ := h
  · cases h0
  cases he'
  rw [hg] at hgc
  cases hgc
  refine ⟨by rw [flat_len hG, List.length_set, hl], .inr ⟨g, o, c, _, rfl, hb, World.putObj_heap_same (lt_of_heap hg), hn, hm, by rw [Array.size_setIfInBounds]; exact hs, fun j hj => ?_⟩⟩
  have hjd : j = j / k * k + j % k := (Nat.div_add_mod' j k).symm
  have hrm : j % k < k := Nat.mod_lt _ hkp
  have hql : j / k < l.length := by rw [hl]; exact (Nat.div_lt_iff_lt_mul hkp).2 hj
  have hiff : o + i * k + r = o + j ↔ j / k = i ∧ j % k = r := by
    constructor
    · intro e
      have e2 : j = r + i * k := by omega
      rw [e2, Nat.add_mul_div_right _ _ hkp, Nat.div_eq_of_lt hr, Nat.zero_add, Nat.add_mul_mod_self_right, Nat.mod_eq_of_lt hr]
      exact ⟨rfl, rfl⟩
    · rintro ⟨e1, e2⟩
      rw [e1, e2] at hjd
      omega
  rw [Array.getElem?_setIfInBounds]
  have hrhs : ((l.set i x').flatMap G)[j]? = (if j / k = i then (G x')[j % k]? else (l.flatMap G)[j]?) := by
    by_cases hq : j / k = i
    · rw [if_pos hq]
      conv => lhs; rw [hjd, hq]
      exact flat_get hG _ i x' _ (by rw [List.getElem?_set_self hi]) hrm
    · rw [if_neg hq]
      obtain ⟨y, hy⟩ : ∃ y, l[j / k]? = some y := ⟨l[j / k], by simp [hql]⟩
      conv => lhs; rw [hjd]
      conv => rhs; rw [hjd]
      rw [flat_get hG l _ y _ hy hrm, flat_get hG _ _ y _ (by rw [List.getElem?_set_ne (Ne.symm hq)]; exact hy) hrm]
  rw [hrhs]
  by_cases hq : j / k = i
  · rw [if_pos hq]
    by_cases hr2 : j % k = r
    · have hsz : o + i * k + r < cur.size := by
        rw [hiff.2 ⟨hq, hr2⟩]
        have h2 : n * k ≤ c * k := Nat.mul_le_mul_right k hn
        omega
      rw [if_pos (hiff.2 ⟨hq, hr2⟩), if_pos hsz, hr2, hv]
    · rw [if_neg (fun e => hr2 (hiff.1 e).2), ht j hj, he _ hr2]
      conv => lhs; rw [hjd, hq]
      exact flat_get hG l i x _ hx hrm
  · rw [if_neg (fun e => hq (hiff.1 e).1), if_neg hq, ht j hj]
structure RefA (w : World) (base xb : Nat) (L : List RN) : Prop where
  row : ∃ rv, w.heap[xb]? = some (.cells #[rv] RAT (0, 0)) ∧ base ≤ xb ∧ OwnS w base NTT 37 rv L.length (L.flatMap GN)
  bad : ∀ n ∈ L, OwnS w base RBT 3 n.v n.p.bad.length (n.p.bad.flatMap GB)
  sort : L.Pairwise fun a b => ltK a.k b.k
  bs : ∀ n ∈ L, n.p.bad.Pairwise fun a b => a.1 < b.1
  few : ∀ n ∈ L, n.p.bad.length ≤ 8
  sep : L.Pairwise fun a b => ∀ q, a.v.ownBlock = some q → b.v.ownBlock ≠ some q
  len : L.length ≤ 100
  tb : ∀ n ∈ L, ∀ id, n.p.T id ≤ 18446744073709551615
/-- The reference's blocks, by their types. -/
def RD (base : Nat) (w : World) (q : Nat) : Prop := base ≤ q ∧ ∃ c T fr, w.heap[q]? = some (.cells c T fr) ∧ (T = RAT ∨ T = NTT ∨ T = RBT)
theorem keepsRD_trans {base : Nat} {w w' w'' : World} (h1 : Keeps (RD base w) w w') (h2 : Keeps (RD base w') w' w'') : Keeps (RD base w) w w'' :=
  ⟨h2.os.trans h1.os, h2.tape.trans h1.tape, h2.output.trans h1.output, Nat.le_trans h1.size h2.size, fun i hi hn => by
    have e1 := h1.block i hi hn
    rw [← e1]
    refine h2.block i (Nat.lt_of_lt_of_le hi h1.size) (fun hd => hn ?_)
    obtain ⟨hb, c, T, fr, hc, ht⟩ := hd
    exact ⟨hb, c, T, fr, by rw [← e1]; exact hc, ht⟩⟩
theorem RefA.keep {w w' : World} {base xb : Nat} {L : List RN} {D : Nat → Prop} (h : RefA w base xb L) (k : Keeps D w w') (hD : ∀ q, RD base w q → ¬ D q) : RefA w' base xb L := by
  obtain ⟨rv, h1, hb, h2⟩ := h.row
  refine ⟨⟨rv, k.heap h1 (hD _ ⟨hb, _, _, _, h1, .inl rfl⟩), hb, h2.keep k fun q hq => ?_⟩, fun n hn => (h.bad n hn).keep k fun q hq => ?_, h.sort, h.bs, h.few, h.sep, h.len, h.tb⟩
  · obtain ⟨hbq, _, cur, hc⟩ := h2.lt q hq
    exact hD q ⟨hbq, _, _, _, hc, .inr (.inl rfl)⟩
  · obtain ⟨hbq, _, cur, hc⟩ := (h.bad n hn).lt q hq
    exact hD q ⟨hbq, _, _, _, hc, .inr (.inr rfl)⟩
theorem RefA.keepN {w w' : World} {base xb : Nat} {L : List RN} (h : RefA w base xb L) (k : Keeps NoB w w') : RefA w' base xb L := h.keep k fun _ _ h => h
theorem RefA.keepA {w w' : World} {base base' xb ab mb : Nat} {L : List RN} {A : List (KY × ND)} (h : RefA w base xb L) (hA : AcksAt w base' ab mb A) (k : Keeps (aD mb A) w w') : RefA w' base xb L :=
  h.keep k fun q hq => by
    obtain ⟨_, c, T, fr, hc, ht⟩ := hq
    rcases ht with rfl | rfl | rfl
    · exact hA.free hc (by decide) (by decide)
    · exact hA.free hc (by decide) (by decide)
    · exact hA.free hc (by decide) (by decide)
theorem AcksAt.keepR {w w' : World} {base base' ab mb : Nat} {A : List (KY × ND)} (h : AcksAt w base' ab mb A) (k : Keeps (RD base w) w w') : AcksAt w' base' ab mb A := by
  have hcell : ∀ {q : Nat} {c : Array Value} {T : TypeId} {fr : Nat × Nat}, w.heap[q]? = some (.cells c T fr) → T ≠ RAT → T ≠ NTT → T ≠ RBT → ¬ RD base w q := fun hq h1 h2 h3 hd => by
    obtain ⟨_, c', T', fr', hc', ht⟩ := hd
    rw [hq] at hc'
    cases hc'
    rcases ht with e | e | e
    · exact h1 e
    · exact h2 e
    · exact h3 e
  refine ⟨k.heap h.cells (hcell h.cells (by decide) (by decide) (by decide)), h.keys.keep k (fun hd => ?_), fun x hx => (h.note x hx).keep k fun q hq => ?_, h.sep, h.tne⟩
  · obtain ⟨_, c', T', fr', hc', ht⟩ := hd
    exact map_cells' h.keys hc' rfl
  · have hN := h.note x hx
    rcases hq with rfl | rfl | hq
    · exact hcell hN.cell (by decide) (by decide) (by decide)
    · intro hd
      obtain ⟨_, c', T', fr', hc', ht⟩ := hd
      obtain ⟨M, hM, _⟩ := hN.tk
      exact map_cells' hM hc' rfl
    · obtain ⟨_, _, cur, hc⟩ := hN.bad.lt q hq
      exact hcell hc (by decide) (by decide) (by decide)
/-- Where a key is, or is to be. -/
def FI (L : List RN) (k : KY) (i : Nat) (b : Bool) : Prop := i ≤ L.length ∧ (∀ (j : Nat) n, j < i → L[j]? = some n → ltK n.k k) ∧ ((b = true ∧ ∃ n, L[i]? = some n ∧ n.k = k) ∨ (b = false ∧ ∀ n, L[i]? = some n → ¬ ltK n.k k ∧ n.k ≠ k))
set_option maxRecDepth 100000 in
set_option maxHeartbeats 4000000 in
theorem find_ca {w : World} {base xb : Nat} {L : List RN} (h : RefA w base xb L) (k : KY) :
    Ca Tryz.prog 19 #[.pointer (some ⟨xb, 0, none⟩), encK k] w fun v w' => (∃ (i : Nat) (b : Bool), v = .tuple #[.int .i64 (i : Int), .bool b] ∧ FI L k i b) ∧ Keeps NoB w w' := by
  obtain ⟨rv, hxb, hbx, hrow⟩ := h.row
  have hlen := h.len
  obtain ⟨ra, rc, rfl, _, hrat⟩ := hrow.slR.shape
  refine ca_of_body (args := [.pointer (some ⟨xb, 0, none⟩), encK k]) Tryz.func19 rfl (by kernel_rfl) ?_
  apply wc_seq
  apply wc_region
  refine wr_box (v := .agg #[.int .i64 k.1, S k.2]) rfl rfl ?_
  refine wr_name ?_
  intro w1 hww1
  obtain ⟨bw1, hbw1⟩ : ∃ b, b = (w).heap.size := ⟨_, rfl⟩
  have hkw1 : Keeps NoB w w1 := by rw [hww1]; exact (Keeps.refl NoB w).alloc _
  have hcw1 : (w1).heap[bw1]? = some (.cells ([.int .i64 k.1, S k.2]).toArray 36 (0, 0)) := by rw [hww1, hbw1]; exact heap_alloc_same _ _
  rw [← hbw1]
  clear hww1
  have hx1 := hkw1.heap hxb (fun h => h)
  (repeat first | (apply wr_assign; exact rfl; with_reducible (conv => enter [6, 3]; whnf)) | apply wr_end | apply wc_seq | apply wc_region | apply wc_block)
  refine wc_loopL (α := Nat) (fun i => [(0, .pointer (some ⟨xb, 0, none⟩)), (3, .pointer (some ⟨bw1, 0, none⟩)), (6, .int .i64 (i : Int))])
    (fun i ds w' => ds = [] ∧ i ≤ L.length ∧ (∀ (j : Nat) n, j < i → L[j]? = some n → ltK n.k k) ∧ Keeps NoB w1 w') (fun i => L.length - i) 0
    ⟨rfl, Nat.zero_le _, fun j n hj => by omega, Keeps.refl _ _⟩ ⟨rfl, rfl, rfl, trivial⟩ ?_
  rintro i ds f0 w2 ⟨rfl, hi, hall, hk12⟩
  have hx2 := hk12.heap hx1 (fun h => h)
  by_cases hlt : i < L.length
  rotate_left
  · have hie : i = L.length := by omega
    (repeat first | (apply wr_move; exact rfl; with_reducible (conv => enter [6, 3]; whnf)) | (apply wr_assign; exact rfl; with_reducible (conv => enter [6, 3]; whnf)) | apply wr_end | apply wc_seq | apply wc_region | (apply wr_fieldAddr; iterate 2 exact rfl) | (apply wr_len_slice; iterate 2 exact rfl) | (apply wr_nilCheck; iterate 2 exact rfl) | (apply wr_load; (iterate 3 exact rfl); (focus repeat first | with_reducible assumption | exact heap_alloc_same _ _ | exact World.putObj_heap_same (by first | omega | (simp only [World.size_alloc, World.putObj_size, ne_eq]; omega)) | ((first | refine hAl ?_ ?_ | refine hPu ?_ ?_); focus first | omega | (simp only [World.size_alloc, World.putObj_size, ne_eq]; omega))); exact rfl; conv => enter [6, 3]; whnf) | (apply wr_cmp; (iterate 3 exact rfl); exact cmpF (by dsimp only [cmpN]; first | done | omega)) | (apply wc_false; exact rfl) | (apply wc_exit; try simp only [thenE, inBlockE, bodyQ, ↓reduceIte, Nat.reduceEqDiff]) | (apply wc_ret; try simp only [thenE, inBlockE, bodyQ]))
    exact leave2 (v1 := .int .i64 (L.length : Int)) (v2 := .bool false) rfl rfl rfl ⟨⟨L.length, false, rfl, Nat.le_refl _, by rw [← hie]; exact hall, .inr ⟨rfl, fun n hn => by have := (List.getElem?_eq_some_iff.1 hn).1; omega⟩⟩, hkw1.trans hk12⟩
  obtain ⟨n, hn⟩ : ∃ n, L[i]? = some n := ⟨L[i], by simp [hlt]⟩
  obtain ⟨rb, ro, rfl, cur, re, rf, hrb, hrr⟩ := hrat (by omega)
  have hrb2 := (hkw1.trans hk12).heap hrb (fun h => h)
  have hc0 : cur[ro + i * 37 + 0]? = some (.int .i64 n.k.1) := cell_elem (g := GN) (k := 37) (n := L.length) (i := i) (j := 0) GN_len hrr hlt hn rfl
  have hc1 : cur[ro + i * 37 + 1]? = some (S n.k.2) := cell_elem (g := GN) (k := 37) (n := L.length) (i := i) (j := 1) GN_len hrr hlt hn rfl
  have hcw2 := hk12.heap hcw1 (fun h => h)
  have hk0 : ∀ {w'}, Keeps NoB w2.drew w' → Keeps NoB w2 w' := fun hk => (Keeps.refl NoB w2).drew.trans hk
  (repeat first | (apply wr_move; exact rfl; with_reducible (conv => enter [6, 3]; whnf)) | apply wr_end | apply wc_seq | apply wc_region | apply wc_skip | apply wc_block | (apply wr_fieldAddr; iterate 2 exact rfl) | (apply wr_len_slice; iterate 2 exact rfl) | (apply wr_nilCheck; iterate 2 exact rfl) | (apply wr_load; (iterate 3 exact rfl); (focus repeat first | with_reducible assumption | exact heap_alloc_same _ _ | exact World.putObj_heap_same (by first | omega | (simp only [World.size_alloc, World.putObj_size, ne_eq]; omega)) | ((first | refine hAl ?_ ?_ | refine hPu ?_ ?_); focus first | omega | (simp only [World.size_alloc, World.putObj_size, ne_eq]; omega))); exact rfl; conv => enter [6, 3]; whnf) | (apply wr_cmp; (iterate 3 exact rfl); exact cmpT (by dsimp only [cmpP]; first | done | omega)) | (apply wc_true; exact rfl))
  refine wc_drawP (l := _) 11 _ (by kernel_rfl) (by kernel_rfl) rfl (by kernel_rfl) (by kernel_rfl) (by decide) ?_
  apply chP_pure
  focus
    intro xx w' hk hF
    apply wr_move; exact rfl; with_reducible (conv => enter [6, 3]; whnf)
    apply wr_nil
    exact ⟨rfl, Keeps.refl _ _⟩
  focus (intro xx yy h; rfl)
  focus kernel_rfl
  apply chP_pure
  focus
    intro xx w' hk hF
    refine wr_nilCheck rfl rfl ?_
    apply wr_nil
    exact ⟨rfl, Keeps.refl _ _⟩
  focus (intro xx yy h; rfl)
  focus kernel_rfl
  apply chP_pure
  focus
    intro xx w' hk hF
    refine wr_fieldAddr rfl rfl ?_
    apply wr_nil
    exact ⟨rfl, Keeps.refl _ _⟩
  focus (intro xx yy h; rfl)
  focus kernel_rfl
  apply chP_pure
  focus
    intro xx w' hk hF
    refine wr_load (v := .slice (some ⟨rb, ro, none⟩) L.length rc) rfl rfl rfl ((hk0 hk).heap hx2 (fun h => h)) rfl ?_
    apply wr_nil
    exact ⟨rfl, Keeps.refl _ _⟩
  focus (intro xx yy h; rfl)
  focus kernel_rfl
  apply chP_pure
  focus
    intro xx w' hk hF
    apply wr_move; exact rfl; with_reducible (conv => enter [6, 3]; whnf)
    apply wr_nil
    exact ⟨rfl, Keeps.refl _ _⟩
  focus (intro xx yy h; rfl)
  focus kernel_rfl
  apply chP_pure
  focus
    intro xx w' hk hF
    refine wr_indexAddr (i := i) rfl rfl rfl hlt ?_
    apply wr_nil
    exact ⟨rfl, Keeps.refl _ _⟩
  focus (intro xx yy h; rfl)
  focus kernel_rfl
  apply chP_pure
  focus
    intro xx w' hk hF
    refine wr_fieldAddr rfl rfl ?_
    apply wr_nil
    exact ⟨rfl, Keeps.refl _ _⟩
  focus (intro xx yy h; rfl)
  focus kernel_rfl
  apply chP_pure
  focus
    intro xx w' hk hF
    refine wr_loadAgg (cs := [.int .i64 n.k.1, S n.k.2]) rfl rfl rfl rfl (fun j u h => by match j, h with | 0, h => cases h; exact cell_of_heap ((hk0 hk).heap hrb2 (fun h => h)) hc0 | 1, h => cases h; exact cell_of_heap ((hk0 hk).heap hrb2 (fun h => h)) hc1 | j + 2, h => simp at h) ?_
    apply wr_nil
    exact ⟨rfl, Keeps.refl _ _⟩
  focus (intro xx yy h; rfl)
  focus kernel_rfl
  apply chP_pure
  focus
    intro xx w' hk hF
    refine wr_loadAll (cs := [.int .i64 k.1, S k.2]) rfl rfl rfl ((hk0 hk).heap hcw2 (fun h => h)) rfl ?_
    apply wr_nil
    exact ⟨rfl, Keeps.refl _ _⟩
  focus (intro xx yy h; rfl)
  focus kernel_rfl
  apply chP_pure
  focus
    intro xx w' hk hF
    refine wr_call (vs := [encK n.k, encK k]) rfl (refOrder_ca n.k k w') rfl ?_
    rintro v w'' ⟨rfl, hkc⟩
    apply wr_nil
    exact ⟨rfl, hkc⟩
  focus (intro xx yy h; rfl)
  focus kernel_rfl
  apply chP_pure
  focus
    intro xx w' hk hF
    apply wr_assign; exact rfl; with_reducible (conv => enter [6, 3]; whnf)
    apply wr_nil
    exact ⟨rfl, Keeps.refl _ _⟩
  focus (intro xx yy h; rfl)
  focus kernel_rfl
  refine chP_nil ?_
  intro xx w3 hk3' hF
  have hk3 := hk0 hk3'
  clear hF
  have hkk := (hkw1.trans hk12).trans hk3
  unfold ordR
  by_cases he : n.k = k
  · rw [if_pos he]
    (repeat first | (apply wr_move; exact rfl; with_reducible (conv => enter [6, 3]; whnf)) | (apply wr_assign; exact rfl; with_reducible (conv => enter [6, 3]; whnf)) | apply wr_end | apply wc_seq | apply wc_region | (apply wr_cmp; (iterate 3 exact rfl); exact cmpT (by dsimp only [cmpP]; first | done | omega)) | (apply wc_true; exact rfl) | (apply wc_ret; try simp only [thenE, inBlockE, bodyQ]))
    exact leave2 (v1 := .int .i64 (i : Int)) (v2 := .bool true) rfl rfl rfl ⟨⟨i, true, rfl, hi, hall, .inl ⟨rfl, n, hn, he⟩⟩, hkk⟩
  rw [if_neg he]
  by_cases hl : ltK n.k k
  · rw [if_pos hl]
    (repeat first | (apply wr_move; exact rfl; with_reducible (conv => enter [6, 3]; whnf)) | (apply wr_assign; exact rfl; with_reducible (conv => enter [6, 3]; whnf)) | apply wr_end | apply wc_seq | apply wc_region | apply wc_skip | (apply wr_cmp; (iterate 3 exact rfl); exact cmpF (by dsimp only [cmpN]; first | done | omega)) | (apply wr_add; (iterate 3 exact rfl); exact w_fit (by dsimp only [kIn]; first | done | omega)) | (apply wc_false; exact rfl))
    exact ⟨i + 1, by omega, ⟨by trivial, hlt, fun j m hj hm => by
      by_cases e : j = i
      · subst e; rw [hn] at hm; cases hm; exact hl
      · exact hall j m (by omega) hm, hk12.trans hk3⟩, rfl, rfl, rfl, trivial⟩
  · rw [if_neg hl]
    (repeat first | (apply wr_move; exact rfl; with_reducible (conv => enter [6, 3]; whnf)) | (apply wr_assign; exact rfl; with_reducible (conv => enter [6, 3]; whnf)) | apply wr_end | apply wc_seq | apply wc_region | (apply wr_cmp; (iterate 3 exact rfl); exact cmpT (by dsimp only [cmpP]; first | done | omega)) | (apply wr_cmp; (iterate 3 exact rfl); exact cmpF (by dsimp only [cmpN]; first | done | omega)) | (apply wc_true; exact rfl) | (apply wc_ret; try simp only [thenE, inBlockE, bodyQ]))
    exact leave2 (v1 := .int .i64 (i : Int)) (v2 := .bool false) rfl rfl rfl ⟨⟨i, false, rfl, hi, hall, .inr ⟨rfl, fun m hm => by rw [hn] at hm; cases hm; exact ⟨hl, he⟩⟩⟩, hkk⟩
end Go.Proofs.YtjaojihogmnjhaaGreatDoor
