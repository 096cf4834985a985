/- StoreMakesRoom. -/
import Derived.Test.YtafnbbehmbmchaaDoorQe
import Derived.Test.YtafnbbehmbmchaaDoorSn
namespace Go.Proofs.YtafnbbehmbmchaaDoor
open Go Go.V Go.RowKit
set_option linter.unusedVariables false
set_option linter.unusedSimpArgs false

set_option maxRecDepth 100000 in
theorem keyRoom_ca (i : Nat) (hi : i < 26) (w : World) : Ca Tryd.prog 19 #[.int .i64 (i : Int)] w fun v w' => v = encK (keyI i) ∧ Keeps NoB w w' := by
  refine ca_of_body (args := [.int .i64 (i : Int)]) Tryd.func19 rfl (by kernel_rfl) ?_
  apply wc_seq
  apply wc_region
  apply wr_alloc
  focus exact rfl
  refine wr_name ?_
  intro w2 hw2
  obtain ⟨b2, hb2⟩ : ∃ b2, b2 = w.heap.size := ⟨_, rfl⟩
  have hk2 : Keeps NoB w w2 := by rw [hw2]; exact (Keeps.refl NoB w).alloc _
  have hc2 : w2.heap[b2]? = some (.cells #[.int .i64 0, S []] 28 (0, 0)) := by rw [hw2, hb2]; exact heap_alloc_same _ _
  rw [← hb2]
  clear hw2
  (repeat first | (apply wr_move; exact rfl; with_reducible (conv => enter [6, 3]; whnf)) | apply wr_end | apply wc_seq | apply wc_region | (apply wr_add; (iterate 3 exact rfl); exact w_fit (by dsimp only [kIn]; first | done | omega)) | (apply wr_conv; (iterate 2 exact rfl); exact w_fit (by dsimp only [kIn]; first | done | omega)))
  refine wr_buildSlice (vs := [.int .u8 (97 + (i : Int))]) rfl rfl (by intro v hv; simp at hv; subst hv; rfl) rfl (by decide) (by decide) (by decide) ?_
  refine wr_name ?_
  intro w3 hw3
  obtain ⟨b3, hb3⟩ : ∃ b3, b3 = w2.heap.size := ⟨_, rfl⟩
  have hk3 : Keeps NoB w2 w3 := by rw [hw3]; exact (Keeps.refl NoB w2).alloc _
  have hc3 : w3.heap[b3]? = some (.cells #[.int .u8 (97 + (i : Int))] 5 (0, 0)) := by rw [hw3, hb3]; exact heap_alloc_same _ _
  rw [← hb3]
  clear hw3
  refine wr_bytes2str (n := 1) (l := [UInt8.ofNat (97 + i)]) rfl rfl ⟨rfl, some ⟨b3, 0, none⟩, 1, rfl, Nat.le_refl _, .inr ⟨b3, 0, _, _, _, rfl, hc3, fun j hj => ?_⟩⟩ ?_
  · match j, hj with
    | 0, _ =>
      have : ((UInt8.ofNat (97 + i)).toNat : Int) = 97 + (i : Int) := by
        rw [UInt8.toNat_ofNat']
        omega
      simp [bytesV, this]
      omega
  have hc23 := hk3.heap hc2 (fun h => h)
  refine wr_build (ps := [(0, .int .i64 1), (1, S [UInt8.ofNat (97 + i)])]) (cs := [.int .i64 1, S [UInt8.ofNat (97 + i)]]) rfl rfl rfl rfl ?_
  refine wr_storeAll (cs := [.int .i64 1, S [UInt8.ofNat (97 + i)]]) rfl rfl rfl (by intro u hu; simp at hu; rcases hu with rfl | rfl <;> rfl) hc23 rfl rfl ?_
  (repeat first | apply wr_end | (apply wc_ret; try simp only [thenE, inBlockE, bodyQ]))
  refine leaveN (vs := [encK (keyI i)]) (resv_cells (cs := [.int .i64 1, S [UInt8.ofNat (97 + i)]]) (e := 28) (fr := (0, 0)) rfl rfl (World.putObj_heap_same (lt_of_heap hc23)) rfl resv_nil) ⟨rfl, (hk2.trans hk3).trans' ((Keeps.refl (· = b2) w3).put _ (fun _ => rfl)) (fun i hi e => by omega)⟩
theorem wantJ {i j : Nat} (hi : i < 26) (hj : j < 26) (hij : j ≠ i) (n : Int) : wantP (WI (keyI i) n) (keyI j) = 0 := by
  have h1 := (keyI_ok hj).2
  unfold wantP
  rw [if_pos (keyI_ok hj).1, if_neg h1]
  have h2 : WI (keyI i) n (keyI j) = 0 := by
    unfold WI setW
    rw [if_neg (fun e => hij (keyI_inj hj hi e))]
  have h3 : WI (keyI i) n ((keyI j).1, star) = 0 := by
    unfold WI setW
    rw [if_neg]
    intro e
    exact (keyI_ok hi).2 (congrArg Prod.snd e).symm
  rw [h2, h3]
  rfl
def entI (w i : Nat) : EN := (resI i 1, decide (i ≠ w), i)
/-- What is kept: of each its own. -/
def KI (w i : Nat) (K : KL) : Prop := K.map (fun x => (x.1, x.2.2)) = (List.range i).map fun j => (keyI j, entI w j)
theorem KI.keys {w i : Nat} {K : KL} (h : KI w i K) : K.map (·.1) = (List.range i).map keyI := by
  have := congrArg (List.map Prod.fst) h
  rw [List.map_map, List.map_map] at this
  exact this
theorem KI.of {w i : Nat} {K : KL} (h : KI w i K) {x : KY × PE} (hx : x ∈ K) : ∃ j, j < i ∧ x.1 = keyI j ∧ x.2.2 = entI w j := by
  have h1 : (x.1, x.2.2) ∈ K.map (fun x => (x.1, x.2.2)) := List.mem_map.2 ⟨x, hx, rfl⟩
  rw [h] at h1
  obtain ⟨j, hj, e⟩ := List.mem_map.1 h1
  exact ⟨j, List.mem_range.1 hj, (congrArg Prod.fst e).symm, (congrArg Prod.snd e).symm⟩
theorem KI.has {w i j : Nat} {K : KL} (h : KI w i K) (hj : j < i) : ∃ x ∈ K, x.1 = keyI j ∧ x.2.2 = entI w j := by
  have h1 : (keyI j, entI w j) ∈ (List.range i).map fun j => (keyI j, entI w j) := List.mem_map.2 ⟨j, List.mem_range.2 hj, rfl⟩
  rw [← h] at h1
  obtain ⟨x, hx, e⟩ := List.mem_map.1 h1
  exact ⟨x, hx, congrArg Prod.fst e, congrArg Prod.snd e⟩
theorem KI.len {w i : Nat} {K : KL} (h : KI w i K) : K.length = i := by
  have := congrArg List.length h
  simpa using this
theorem KI.put {w i : Nat} {K : KL} (h : KI w i K) (hi : i < 26) (g : Nat) (e : EN) (he : e = entI w i) : KI w (i + 1) (putL K (keyI i) (g, e)) := by
  have hnk : keyI i ∉ K.map (·.1) := by rw [h.keys]; exact range_not (Nat.le_refl _) hi
  unfold KI at h ⊢
  rw [putL_new _ hnk, List.map_append, h, List.range_succ, List.map_append, he]; rfl
theorem entI_want {w i : Nat} (hw : w < 26) (hi : i < 26) : ((resI i 1, decide (wantP (WI (keyI w) 1) (keyI i) = 0), i) : EN) = entI w i := by
  unfold entI
  by_cases h : i = w
  · subst h
    rw [wantI hi]
    simp
  · rw [wantJ hw hi h]
    simp [h]
theorem unwI {w j now : Nat} (hw : w < 26) (hj : j < 26) {x : KY × PE} (h1 : x.1 = keyI j) (h2 : x.2.2 = entI w j) : unw (WI (keyI w) 1) now x = if j = w then none else some (entI w j) := by
  unfold unw
  rw [h1, h2]
  by_cases h : j = w
  · subst h
    rw [wantI hj]; simp
  · rw [wantJ hw hj h]
    simp [h, entI]
/-- Who goes. -/
theorem who_goes {w n out now : Nat} {K : KL} (h : KI w n K) (hw : w < n) (hn : 2 ≤ n) (hn26 : n ≤ 12) (hout : out = if w = 0 then 1 else 0) {x : KY × PE} (hx : x ∈ K) {e : EN} (hxe : unw (WI (keyI w) 1) now x = some e)
    (hmin : ∀ y ∈ K, ∀ e', unw (WI (keyI w) 1) now y = some e' → ¬ ordE e' e < 0) : x.1 = keyI out := by
  obtain ⟨j, hj, hx1, hx2⟩ := h.of hx
  have ho : out < n ∧ out ≠ w := by rw [hout]; split <;> omega
  obtain ⟨y, hy, hy1, hy2⟩ := h.has ho.1
  have hjw : j ≠ w := fun e' => by
    rw [unwI (by omega) (by omega) hx1 hx2, if_pos e'] at hxe
    cases hxe
  rw [unwI (by omega) (by omega) hx1 hx2, if_neg hjw] at hxe
  have h1 := hmin y hy (entI w out) (by rw [unwI (by omega) (by omega) hy1 hy2, if_neg ho.2])
  rw [← Option.some.inj hxe] at h1
  have h2 : ¬ out < j := fun hlt => h1 (by
    have : (ltE (0, entI w out) (0, entI w j)) := (ltE_iff _ _).2 (.inl hlt)
    exact this)
  have : j = out := by
    rw [hout] at h2 ⊢
    split at h2 <;> split <;> omega
  rw [hx1, this]
theorem unw_some {w n now : Nat} {K : KL} (h : KI w n K) (hw : w < n) (hn : 2 ≤ n) (hn26 : n ≤ 12) : K.filterMap (unw (WI (keyI w) 1) now) ≠ [] := by
  intro e
  have ho : (if w = 0 then 1 else 0) < n ∧ (if w = 0 then 1 else 0) ≠ w := by split <;> omega
  obtain ⟨y, hy, hy1, hy2⟩ := h.has ho.1
  have : entI w (if w = 0 then 1 else 0) ∈ K.filterMap (unw (WI (keyI w) 1) now) := List.mem_filterMap.2 ⟨y, hy, by rw [unwI (by omega) (by omega) hy1 hy2, if_neg ho.2]⟩
  rw [e] at this
  cases this
theorem there {w n out i : Nat} {K : KL} (h : KI w n K) (hn : n ≤ 12) (ho : out < n) (hi : i < n) (y : PE) : (getL (putL (delL K (keyI out)) (keyI 20) y) (keyI i)).isSome = decide (i ≠ out) := by
  have h20 : keyI i ≠ keyI 20 := fun e => by have := keyI_inj (by omega) (by omega) e; omega
  rw [getL_put, if_neg h20]
  by_cases hio : i = out
  · subst hio
    rw [getL_del]; simp
  · have : keyI i ∈ (delL K (keyI out)).map (·.1) := del_mem.2 ⟨fun e => hio (keyI_inj (by omega) (by omega) e), by rw [h.keys]; exact range_mem hi⟩
    rw [getL_some this]; simp [hio]
set_option maxRecDepth 100000 in
set_option maxHeartbeats 8000000 in
theorem room_law (many wanted : Nat) (hm : many < 256) (hw : wanted < 256) (w : World) :
    Ca Tryd.prog 7 #[.int .u8 (many : Int), .int .u8 (wanted : Int)] w fun v w' => v = .bool true ∧ Keeps NoB w w' := by
  refine ca_of_body (args := [.int .u8 (many : Int), .int .u8 (wanted : Int)]) Tryd.func7 rfl (by kernel_rfl) ?_
  (repeat first | (apply wr_assign; exact rfl; with_reducible (conv => enter [6, 3]; whnf)) | apply wr_end | apply wc_seq | apply wc_region)
  refine wr_call (vs := []) rfl (examples_ca w) rfl ?_
  rintro v w1 ⟨rfl, hk1⟩
  (repeat first | (apply wr_move; exact rfl; with_reducible (conv => enter [6, 3]; whnf)) | (apply wr_assign; exact rfl; with_reducible (conv => enter [6, 3]; whnf)) | apply wr_end | apply wc_seq | apply wc_region | apply wc_skip | (apply wr_not; iterate 2 exact rfl) | (apply wc_false; exact rfl))
  refine wr_remN (n := many) (m := 11) rfl rfl rfl (by decide) ?_
  obtain ⟨n, hn⟩ : ∃ n, n = 2 + many % 11 := ⟨_, rfl⟩
  have hcn : (2 : Int) + ((many % 11 : Nat) : Int) = (n : Int) := by omega
  (repeat first | (apply wr_move; exact rfl; with_reducible (conv => enter [6, 3]; whnf)) | (apply wr_assign; exact rfl; with_reducible (conv => enter [6, 3]; whnf)) | apply wr_end | apply wc_seq | apply wc_region | (apply wr_add; (iterate 3 exact rfl); exact w_fit (by dsimp only [kIn]; first | done | omega)) | (apply wr_conv; (iterate 2 exact rfl); exact w_fit (by dsimp only [kIn]; first | done | omega)))
  rw [hcn]
  refine wr_call (vs := [.int .i64 (n : Int), .int .u64 100]) rfl (new_ca (n : Int) (by omega) 100 w1) rfl ?_
  rintro v w2 ⟨sb, kb, wb, rfl, h2, hk2, hs1, hs2, hs3⟩
  have hro : roomOf (n : Int) = (n : Int) := by unfold roomOf; omega
  rw [hro] at h2
  (repeat first | (apply wr_move; exact rfl; with_reducible (conv => enter [6, 3]; whnf)) | (apply wr_assign; exact rfl; with_reducible (conv => enter [6, 3]; whnf)) | apply wr_end | apply wc_seq | apply wc_region)
  refine wr_ptrNil rfl rfl ?_
  obtain ⟨j, hj⟩ : ∃ j, j = wanted % n := ⟨_, rfl⟩
  have hjn : j < n := by rw [hj]; exact Nat.mod_lt _ (by omega)
  have hj26 : j < 26 := by omega
  (repeat first | (apply wr_move; exact rfl; with_reducible (conv => enter [6, 3]; whnf)) | (apply wr_assign; exact rfl; with_reducible (conv => enter [6, 3]; whnf)) | apply wr_end | apply wc_seq | apply wc_region | apply wc_skip | (apply wr_conv; (iterate 2 exact rfl); exact w_fit (by dsimp only [kIn]; first | done | omega)) | (apply wc_false; exact rfl))
  refine wr_remN (n := wanted) (m := n) rfl rfl rfl (by omega) ?_
  rw [← hj]
  (repeat first | (apply wr_move; exact rfl; with_reducible (conv => enter [6, 3]; whnf)) | (apply wr_assign; exact rfl; with_reducible (conv => enter [6, 3]; whnf)) | apply wr_end | apply wc_seq | apply wc_region)
  refine wr_callv (vs := [.int .i64 (j : Int)]) rfl (callV_func (first := #[]) (cap := #[]) (by kernel_rfl) (keyRoom_ca j hj26 w2)) rfl rfl ?_
  rintro v w3 ⟨rfl, hk3⟩
  have h3 := h2.keep hk3
  refine wr_call (vs := [.pointer (some ⟨sb, 0, none⟩), encK (keyI j), .int .i64 1]) rfl (watch_ca h3 (keyI j) (keyI_short j) 1 (by decide)) rfl ?_
  rintro v w4 (⟨_, rfl, h4, hk4⟩ | ⟨hno, _⟩)
  rotate_left
  · exact absurd ⟨(keyI_ok hj26).1, show -(0 : Int) ≤ 1 by decide, show (1 : Int) ≤ 2147483647 - 0 by decide⟩ hno
  have hW4 : setW (fun _ => 0) (keyI j) ((fun _ => (0 : Int)) (keyI j) + 1) = WI (keyI j) 1 := rfl
  rw [hW4] at h4
  have hz1 := hk1.size
  have hkw4 : Keeps NoB w w4 := ((hk1.trans hk2).trans hk3).trans' hk4 (fun i hi e => by omega)
  (repeat first | (apply wr_assign; exact rfl; with_reducible (conv => enter [6, 3]; whnf)) | apply wr_end | apply wc_seq | apply wc_region | apply wc_block)
  refine wc_loopL (α := Nat × KL) (fun p => [(5, .bool true), (6, .int .i64 (n : Int)), (7, .pointer (some ⟨sb, 0, none⟩)), (8, .func (.func 19) #[] #[]), (9, .int .i64 (j : Int)), (10, .int .i64 (p.1 : Int))])
    (fun p ds w' => ds = [] ∧ p.1 ≤ n ∧ KI j p.1 p.2 ∧ St w' sb kb wb n 100 p.2 (WI (keyI j) 1) ∧ Keeps NoB w w')
    (fun p => n - p.1) (0, []) ⟨rfl, Nat.zero_le _, rfl, h4, hkw4⟩ ⟨rfl, rfl, rfl, rfl, rfl, rfl, trivial⟩ ?_
  rintro ⟨i, K⟩ ds f0 w5 ⟨rfl, hin, hKI, h5, hkw5⟩
  dsimp only at hin hKI h5 ⊢
  have hKlen := hKI.len
  have hKs : ∀ x ∈ K, x.1.2.length ≤ 9223372036854775807 := fun x hx => by
    obtain ⟨q, _, e, _⟩ := hKI.of hx
    rw [e]; exact keyI_short q
  by_cases hgo : i < n
  · have hi26 : i < 26 := by omega
    have hnk : keyI i ∉ K.map (·.1) := by rw [hKI.keys]; exact range_not (Nat.le_refl _) hi26
    (repeat first | (apply wr_move; exact rfl; with_reducible (conv => enter [6, 3]; whnf)) | apply wr_end | apply wc_seq | apply wc_region | apply wc_skip | apply wc_block | (apply wr_cmp; (iterate 3 exact rfl); exact cmpT (by dsimp only [cmpP]; first | done | omega)) | (apply wc_true; exact rfl))
    refine wr_callv (vs := [.int .i64 (i : Int)]) rfl (callV_func (first := #[]) (cap := #[]) (by kernel_rfl) (keyRoom_ca i hi26 w5)) rfl rfl ?_
    rintro v w6 ⟨rfl, hk6⟩
    refine wr_build (ps := [(0, encK (keyI i)), (1, .int .u64 1)]) (cs := GRd (resI i 1)) rfl rfl rfl rfl ?_
    (repeat first | (apply wr_move; exact rfl; with_reducible (conv => enter [6, 3]; whnf)) | (apply wr_conv; (iterate 2 exact rfl); exact w_fit (by dsimp only [kIn]; first | done | omega)))
    refine wr_call (vs := [.pointer (some ⟨sb, 0, none⟩), RdV (resI i 1), .int .u64 (i : Int)]) rfl (put_ca (h5.keep hk6) (resI i 1) i (fun _ => .inl (by omega)) hKs (keyI_short i) (Nat.zero_le _)) rfl ?_
    have hE : putE (n : Int) K (resI i 1) = 0 := by
      unfold putE
      rw [if_pos (resI_ok hi26 (by decide) (by decide)), show getL K (keyR (resI i 1)) = none from getL_none hnk]
      dsimp only
      rw [if_pos (by omega)]
    rw [hE]
    rintro v w7 ⟨rfl, ⟨hne, _⟩ | ⟨_, g, _, h7, hk7⟩⟩
    · exact absurd rfl hne
    rw [show keyR (resI i 1) = keyI i from rfl] at h7
    have hlkb := h2.kept.lt
    (repeat first | (apply wr_move; exact rfl; with_reducible (conv => enter [6, 3]; whnf)) | (apply wr_assign; exact rfl; with_reducible (conv => enter [6, 3]; whnf)) | apply wr_end | apply wc_region | apply wc_skip | (apply wr_cmp; (iterate 3 exact rfl); exact cmpF (by dsimp only [cmpN]; first | done | omega)) | (apply wr_add; (iterate 3 exact rfl); exact w_fit (by dsimp only [kIn]; first | done | omega)) | (apply wc_false; exact rfl))
    exact ⟨(i + 1, _), by dsimp only; omega, ⟨by trivial, by dsimp only; omega, hKI.put hi26 g _ (entI_want hj26 hi26), h7, (hkw5.trans hk6).trans' hk7 (fun i hi e => by omega)⟩, rfl, rfl, rfl, rfl, rfl, rfl, trivial⟩
  · have hi : i = n := by omega
    subst hi
    have hlkb := h2.kept.lt
    obtain ⟨out, hout⟩ : ∃ out, out = if j = 0 then 1 else 0 := ⟨_, rfl⟩
    have hon : out < i := by rw [hout]; split <;> omega
    have hn20 : keyI 20 ∉ K.map (·.1) := by rw [hKI.keys]; exact range_not (by omega) (by decide)
    have hndK : (K.map (·.1)).Nodup := by rw [hKI.keys]; exact range_nodup (by omega)
    have hj0 : j = 0 ∨ j ≠ 0 := by omega
    rcases hj0 with hj0 | hj0
    all_goals
      have hov : (out : Int) = if j = 0 then 1 else 0 := by rw [hout]; split <;> rfl
      (repeat first | (apply wr_move; exact rfl; with_reducible (conv => enter [6, 3]; whnf)) | (apply wr_assign; exact rfl; with_reducible (conv => enter [6, 3]; whnf)) | apply wr_end | apply wc_seq | apply wc_region | apply wc_skip | (apply wr_cmp; (iterate 3 exact rfl); exact cmpT (by dsimp only [cmpP]; first | done | omega)) | (apply wr_cmp; (iterate 3 exact rfl); exact cmpF (by dsimp only [cmpN]; first | done | omega)) | (apply wc_true; exact rfl) | (apply wc_false; exact rfl) | (apply wc_exit; try simp only [thenE, inBlockE, bodyQ, ↓reduceIte, Nat.reduceEqDiff]))
      refine wr_callv (vs := [.int .i64 ((20 : Nat) : Int)]) rfl (callV_func (first := #[]) (cap := #[]) (by kernel_rfl) (keyRoom_ca 20 (by decide) w5)) rfl rfl ?_
      rintro v w6 ⟨rfl, hk6⟩
      refine wr_build (ps := [(0, encK (keyI 20)), (1, .int .u64 1)]) (cs := GRd (resI 20 1)) rfl rfl rfl rfl ?_
      refine wr_call (vs := [.pointer (some ⟨sb, 0, none⟩), RdV (resI 20 1), .int .u64 ((50 : Nat) : Int)]) rfl (putG_ca (h5.keep hk6) (resI 20 1) 50 (resI_ok (by decide) (by decide) (by decide)) (getL_none hn20) (by omega) (by omega) hKs (fun x hx => by
        obtain ⟨q, _, e1, e2⟩ := hKI.of hx
        rw [e1, e2]; rfl) (unw_some hKI hjn (by omega) (by omega)) (keyI_short 20) (Nat.zero_le _)) rfl ?_
      rintro v w7 ⟨rfl, x, hxK, e, hxe, hmin, g, _, h7, hk7⟩
      have hxo := who_goes hKI hjn (by omega) (by omega) hout hxK hxe hmin
      rw [hxo, show keyR (resI 20 1) = keyI 20 from rfl] at h7
      obtain ⟨e0, he0⟩ : ∃ e : EN, e = (resI 20 1, decide (wantP (WI (keyI j) 1) (keyI 20) = 0), 50) := ⟨_, rfl⟩
      rw [← he0] at h7
      have hkw7 : Keeps NoB w w7 := (hkw5.trans hk6).trans' hk7 (fun i hi e => by omega)
      have hoK : keyI out ∈ K.map (·.1) := by rw [hKI.keys]; exact range_mem hon
      have hdl := delL_len hndK hoK
      have hn20' : keyI 20 ∉ (delL K (keyI out)).map (·.1) := fun h => hn20 (del_mem.1 h).2
      have hl2 : (putL (delL K (keyI out)) (keyI 20) (g, e0)).length = i := by rw [putL_new _ hn20']; simp; omega
      (repeat first | (apply wr_assign; exact rfl; with_reducible (conv => enter [6, 3]; whnf)) | apply wr_end | apply wc_seq | apply wc_region | apply wc_block)
      refine wc_loopL (α := Nat) (fun q => [(5, .bool true), (6, .int .i64 (i : Int)), (7, .pointer (some ⟨sb, 0, none⟩)), (8, .func (.func 19) #[] #[]), (11, .int .i64 (out : Int)), (12, .int .i64 0), (13, .int .i64 (q : Int))])
        (fun q ds w' => ds = [] ∧ q ≤ i ∧ St w' sb kb wb i 100 (putL (delL K (keyI out)) (keyI 20) (g, e0)) (WI (keyI j) 1) ∧ Keeps NoB w w')
        (fun q => i - q) 0 ⟨rfl, Nat.zero_le _, h7, hkw7⟩ ⟨rfl, rfl, rfl, rfl, (by first | (rw [hov, if_pos hj0]; done) | (rw [hov, if_pos hj0]; rfl) | (rw [hov, if_neg hj0]; done) | (rw [hov, if_neg hj0]; rfl)), rfl, rfl, trivial⟩ ?_
      rintro q ds f1 w8 ⟨rfl, hqi, h8, hkw8⟩
      try dsimp only at h8 ⊢
      by_cases hq : q < i
      · skip
        (repeat first | (apply wr_move; exact rfl; with_reducible (conv => enter [6, 3]; whnf)) | apply wr_end | apply wc_seq | apply wc_region | apply wc_skip | apply wc_block | (apply wr_cmp; (iterate 3 exact rfl); exact cmpT (by dsimp only [cmpP]; first | done | omega)) | (apply wc_true; exact rfl))
        refine wr_callv (vs := [.int .i64 (q : Int)]) rfl (callV_func (first := #[]) (cap := #[]) (by kernel_rfl) (keyRoom_ca q (by omega) w8)) rfl rfl ?_
        rintro v w9 ⟨rfl, hk9⟩
        refine wr_call (vs := [.pointer (some ⟨sb, 0, none⟩), encK (keyI q)]) rfl (get_ca (h8.keep hk9) (keyI q)) rfl ?_
        rintro v w10 ⟨rfl, hk10⟩
        rw [there hKI (by omega) hon hq]
        obtain ⟨gr, hgr⟩ : ∃ o, o = gotR (getL (putL (delL K (keyI out)) (keyI 20) (g, e0)) (keyI q)) := ⟨_, rfl⟩
        rw [← hgr]
        (repeat first | (apply wr_move; exact rfl; with_reducible (conv => enter [6, 3]; whnf)) | (apply wr_alloc; exact rfl) | (apply wr_extract; (iterate 3 exact rfl); with_reducible (conv => enter [6, 3]; whnf)))
        refine wr_storeAll (cs := GRd gr) rfl rfl rfl (GRd_one _) (heap_alloc_same _ _) rfl rfl ?_
        refine wr_name ?_
        intro wy hwwy
        obtain ⟨bwy, hbwy⟩ : ∃ b, b = (w10).heap.size := ⟨_, rfl⟩
        have hkwy : Keeps NoB w10 wy := by rw [hwwy]; exact ((Keeps.refl NoB w10).alloc _).put _ (fun h => by omega)
        have hcwy : (wy).heap[bwy]? = some (.cells (GRd gr).toArray 30 (0, 0)) := by rw [hwwy, hbwy]; exact World.putObj_heap_same (by simp)
        rw [← hbwy]
        clear hwwy
        by_cases hqo : q = out
        · have : decide (q ≠ out) = false := by simp [hqo]
          rw [this]
          (repeat first | (apply wr_move; exact rfl; with_reducible (conv => enter [6, 3]; whnf)) | (apply wr_assign; exact rfl; with_reducible (conv => enter [6, 3]; whnf)) | apply wr_end | apply wc_seq | apply wc_region | (apply wr_cmp; (iterate 3 exact rfl); exact cmpT (by dsimp only [cmpP]; first | done | omega)))
          refine wr_boolEq (c := false) rfl rfl rfl rfl ?_
          (repeat first | (apply wr_move; exact rfl; with_reducible (conv => enter [6, 3]; whnf)) | (apply wr_assign; exact rfl; with_reducible (conv => enter [6, 3]; whnf)) | apply wr_end | apply wc_region | apply wc_skip | (apply wr_add; (iterate 3 exact rfl); exact w_fit (by dsimp only [kIn]; first | done | omega)) | (apply wc_false; exact rfl))
          exact ⟨q + 1, by omega, ⟨by trivial, by omega, ((h8.keep hk9).keep hk10).keep hkwy, ((hkw8.trans hk9).trans hk10).trans hkwy⟩, rfl, rfl, rfl, rfl, rfl, rfl, rfl, trivial⟩
        · have : decide (q ≠ out) = true := by simp [hqo]
          rw [this]
          (repeat first | (apply wr_move; exact rfl; with_reducible (conv => enter [6, 3]; whnf)) | (apply wr_assign; exact rfl; with_reducible (conv => enter [6, 3]; whnf)) | apply wr_end | apply wc_seq | apply wc_region | (apply wr_cmp; (iterate 3 exact rfl); exact cmpF (by dsimp only [cmpN]; first | done | omega)))
          refine wr_boolEq (c := false) rfl rfl rfl rfl ?_
          (repeat first | (apply wr_move; exact rfl; with_reducible (conv => enter [6, 3]; whnf)) | (apply wr_assign; exact rfl; with_reducible (conv => enter [6, 3]; whnf)) | apply wr_end | apply wc_region | apply wc_skip | (apply wr_add; (iterate 3 exact rfl); exact w_fit (by dsimp only [kIn]; first | done | omega)) | (apply wc_false; exact rfl))
          exact ⟨q + 1, by omega, ⟨by trivial, by omega, ((h8.keep hk9).keep hk10).keep hkwy, ((hkw8.trans hk9).trans hk10).trans hkwy⟩, rfl, rfl, rfl, rfl, rfl, rfl, rfl, trivial⟩
      · skip
        (repeat first | (apply wr_move; exact rfl; with_reducible (conv => enter [6, 3]; whnf)) | apply wr_end | apply wc_seq | apply wc_region | (apply wr_cmp; (iterate 3 exact rfl); exact cmpF (by dsimp only [cmpN]; first | done | omega)) | (apply wc_false; exact rfl) | (apply wc_exit; try simp only [thenE, inBlockE, bodyQ, ↓reduceIte, Nat.reduceEqDiff]))
        refine wr_callv (vs := [.int .i64 ((20 : Nat) : Int)]) rfl (callV_func (first := #[]) (cap := #[]) (by kernel_rfl) (keyRoom_ca 20 (by decide) w8)) rfl rfl ?_
        rintro v w9 ⟨rfl, hk9⟩
        refine wr_call (vs := [.pointer (some ⟨sb, 0, none⟩), encK (keyI 20)]) rfl (get_ca (h8.keep hk9) (keyI 20)) rfl ?_
        rintro v w10 ⟨rfl, hk10⟩
        rw [getL_put_same]
        dsimp only [Option.isSome, gotR]
        (repeat first | (apply wr_move; exact rfl; with_reducible (conv => enter [6, 3]; whnf)) | (apply wr_alloc; exact rfl) | (apply wr_extract; (iterate 3 exact rfl); with_reducible (conv => enter [6, 3]; whnf)))
        refine wr_storeAll (cs := GRd e0.1) rfl rfl rfl (GRd_one _) (heap_alloc_same _ _) rfl rfl ?_
        refine wr_name ?_
        intro wy hwwy
        obtain ⟨bwy, hbwy⟩ : ∃ b, b = (w10).heap.size := ⟨_, rfl⟩
        have hkwy : Keeps NoB w10 wy := by rw [hwwy]; exact ((Keeps.refl NoB w10).alloc _).put _ (fun h => by omega)
        have hcwy : (wy).heap[bwy]? = some (.cells (GRd e0.1).toArray 30 (0, 0)) := by rw [hwwy, hbwy]; exact World.putObj_heap_same (by simp)
        rw [← hbwy]
        clear hwwy
        have h11 := ((h8.keep hk9).keep hk10).keep hkwy
        (repeat first | (apply wr_move; exact rfl; with_reducible (conv => enter [6, 3]; whnf)) | (apply wr_assign; exact rfl; with_reducible (conv => enter [6, 3]; whnf)) | apply wr_end | apply wc_seq | apply wc_region | (apply wr_cmp; (iterate 3 exact rfl); exact cmpT (by dsimp only [cmpP]; first | done | omega)) | (apply wr_pick (t := true); (iterate 2 exact rfl); with_reducible (conv => enter [6, 3]; whnf)))
        refine wr_call (vs := [.pointer (some ⟨sb, 0, none⟩)]) rfl (len_ca h11) rfl ?_
        rintro v w12 ⟨rfl, rfl⟩
        rw [hl2]
        (repeat first | (apply wr_move; exact rfl; with_reducible (conv => enter [6, 3]; whnf)) | (apply wr_assign; exact rfl; with_reducible (conv => enter [6, 3]; whnf)) | apply wr_end | (apply wr_cmp; (iterate 3 exact rfl); exact cmpT (by dsimp only [cmpP]; first | done | omega)) | (apply wr_pick (t := true); (iterate 2 exact rfl); with_reducible (conv => enter [6, 3]; whnf)) | (apply wc_ret; try simp only [thenE, inBlockE, bodyQ]))
        exact leave1 (v := .bool true) rfl rfl ⟨rfl, ((hkw8.trans hk9).trans hk10).trans hkwy⟩
end Go.Proofs.YtafnbbehmbmchaaDoor
