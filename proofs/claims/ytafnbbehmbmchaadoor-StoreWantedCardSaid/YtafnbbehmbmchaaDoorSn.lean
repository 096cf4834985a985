/- StoreCuts. -/
import Derived.Test.YtafnbbehmbmchaaDoorSm
namespace Go.Proofs.YtafnbbehmbmchaaDoor
open Go Go.V Go.RowKit
set_option linter.unusedVariables false
set_option linter.unusedSimpArgs false

theorem getL_del {β : Type} (L : List (KY × β)) (k : KY) : getL (delL L k) k = none := by
  unfold getL delL
  have : (L.filter fun p => p.1 ≠ k).find? (fun p => decide (p.1 = k)) = none := by
    rw [List.find?_eq_none]
    intro p hp
    have := (List.mem_filter.1 hp).2
    simp at this
    simp [this]
  rw [this]; rfl
theorem getL_none {β : Type} {L : List (KY × β)} {k : KY} (h : k ∉ L.map (·.1)) : getL L k = none := by
  unfold getL
  have : L.find? (fun p => decide (p.1 = k)) = none := by
    rw [List.find?_eq_none]
    intro p hp
    simp
    intro e
    exact h (List.mem_map.2 ⟨p, hp, e⟩)
  rw [this]; rfl
theorem getL_some {β : Type} : ∀ {L : List (KY × β)} {k : KY}, k ∈ L.map (·.1) → (getL L k).isSome = true
  | [], k, h => by simp at h
  | p :: L, k, h => by
    unfold getL
    rw [List.find?_cons]
    by_cases hp : p.1 = k
    · simp [hp]
    · have : k ∈ L.map (·.1) := by
        simp only [List.map_cons, List.mem_cons] at h
        exact h.resolve_left (fun e => hp e.symm)
      have := getL_some this
      unfold getL at this
      simpa [hp] using this
theorem delL_none {β : Type} {L : List (KY × β)} {k : KY} (h : k ∉ L.map (·.1)) : delL L k = L := by
  unfold delL
  rw [List.filter_eq_self]
  intro p hp
  simp
  intro e
  exact h (List.mem_map.2 ⟨p, hp, e⟩)
theorem delL_len {β : Type} : ∀ {L : List (KY × β)} {k : KY}, (L.map (·.1)).Nodup → k ∈ L.map (·.1) → (delL L k).length + 1 = L.length
  | [], k, _, h => by simp at h
  | p :: L, k, hn, h => by
    simp only [List.map_cons, List.nodup_cons] at hn
    by_cases hp : p.1 = k
    · have h1 : k ∉ L.map (·.1) := by rw [← hp]; exact hn.1
      have h2 : delL (p :: L) k = delL L k := by simp [delL, hp]
      rw [h2, delL_none h1]; rfl
    · have hk : k ∈ L.map (·.1) := by
        simp only [List.map_cons, List.mem_cons] at h
        exact h.resolve_left (fun e => hp e.symm)
      have h2 : delL (p :: L) k = p :: delL L k := by simp [delL, hp]
      rw [h2, List.length_cons, List.length_cons, delL_len hn.2 hk]
theorem putL_new {β : Type} {L : List (KY × β)} {k : KY} (y : β) (h : k ∉ L.map (·.1)) : putL L k y = L ++ [(k, y)] := by unfold putL; rw [if_neg h]
theorem del_mem {β : Type} {L : List (KY × β)} {k x : KY} : x ∈ (delL L k).map (·.1) ↔ x ≠ k ∧ x ∈ L.map (·.1) := by
  unfold delL
  simp only [List.mem_map, List.mem_filter]
  constructor
  · rintro ⟨p, ⟨hp, h⟩, rfl⟩
    exact ⟨by simpa using h, p, hp, rfl⟩
  · rintro ⟨hx, p, hp, rfl⟩
    exact ⟨p, ⟨hp, by simpa using hx⟩, rfl⟩
def keyI (i : Nat) : KY := (1, [UInt8.ofNat (97 + i)])
theorem keyI_ok {i : Nat} (h : i < 26) : keyOk (keyI i) ∧ (keyI i).2 ≠ star := by
  have h1 : ∀ i, i < 26 → keyOk (keyI i) ∧ (keyI i).2 ≠ star := by decide +kernel
  exact h1 i h
theorem keyI_inj {i j : Nat} (hi : i < 26) (hj : j < 26) (h : keyI i = keyI j) : i = j := by
  have h1 : ∀ i, i < 26 → ∀ j, j < 26 → keyI i = keyI j → i = j := by decide +kernel
  exact h1 i hi j hj h
theorem keyI_short (i : Nat) : (keyI i).2.length ≤ 9223372036854775807 := by simp [keyI]
def resI (i : Nat) (q : Nat) : RD := ((keyI i).1, (keyI i).2, q, false, [])
theorem resI_ok {i q : Nat} (h : i < 26) (h1 : 1 ≤ q) (h2 : q ≤ 4611686018427387904) : rightOk (resI i q) := ⟨(keyI_ok h).1, (keyI_ok h).2, Nat.zero_le _, fun h => rfl, h1, h2⟩
set_option maxRecDepth 100000 in
theorem keyCuts_ca (i : Nat) (hi : i < 26) (w : World) : Ca Tryd.prog 20 #[.int .i64 (i : Int)] w fun v w' => v = encK (keyI i) ∧ Keeps NoB w w' := by
  refine ca_of_body (args := [.int .i64 (i : Int)]) Tryd.func20 rfl (by kernel_rfl) ?_
  apply wc_seq
  apply wc_region
  apply wr_alloc
  focus exact rfl
  refine wr_name ?_
  intro w2 hw2
  obtain ⟨b2, hb2⟩ : ∃ b2, b2 = w.heap.size := ⟨_, rfl⟩
  have hk2 : Keeps NoB w w2 := by rw [hw2]; exact (Keeps.refl NoB w).alloc _
  have hc2 : w2.heap[b2]? = some (.cells #[.int .i64 0, S []] 28 (0, 0)) := by rw [hw2, hb2]; exact heap_alloc_same _ _
  rw [← hb2]
  clear hw2
  (repeat first | (apply wr_move; exact rfl; with_reducible (conv => enter [6, 3]; whnf)) | apply wr_end | apply wc_seq | apply wc_region | (apply wr_add; (iterate 3 exact rfl); exact w_fit (by dsimp only [kIn]; first | done | omega)) | (apply wr_conv; (iterate 2 exact rfl); exact w_fit (by dsimp only [kIn]; first | done | omega)))
  refine wr_buildSlice (vs := [.int .u8 (97 + (i : Int))]) rfl rfl (by intro v hv; simp at hv; subst hv; rfl) rfl (by decide) (by decide) (by decide) ?_
  refine wr_name ?_
  intro w3 hw3
  obtain ⟨b3, hb3⟩ : ∃ b3, b3 = w2.heap.size := ⟨_, rfl⟩
  have hk3 : Keeps NoB w2 w3 := by rw [hw3]; exact (Keeps.refl NoB w2).alloc _
  have hc3 : w3.heap[b3]? = some (.cells #[.int .u8 (97 + (i : Int))] 5 (0, 0)) := by rw [hw3, hb3]; exact heap_alloc_same _ _
  rw [← hb3]
  clear hw3
  refine wr_bytes2str (n := 1) (l := [UInt8.ofNat (97 + i)]) rfl rfl ⟨rfl, some ⟨b3, 0, none⟩, 1, rfl, Nat.le_refl _, .inr ⟨b3, 0, _, _, _, rfl, hc3, fun j hj => ?_⟩⟩ ?_
  · match j, hj with
    | 0, _ =>
      have : ((UInt8.ofNat (97 + i)).toNat : Int) = 97 + (i : Int) := by
        rw [UInt8.toNat_ofNat']
        omega
      simp [bytesV, this]
      omega
  have hc23 := hk3.heap hc2 (fun h => h)
  refine wr_build (ps := [(0, .int .i64 1), (1, S [UInt8.ofNat (97 + i)])]) (cs := [.int .i64 1, S [UInt8.ofNat (97 + i)]]) rfl rfl rfl rfl ?_
  refine wr_storeAll (cs := [.int .i64 1, S [UInt8.ofNat (97 + i)]]) rfl rfl rfl (by intro u hu; simp at hu; rcases hu with rfl | rfl <;> rfl) hc23 rfl rfl ?_
  (repeat first | apply wr_end | (apply wc_ret; try simp only [thenE, inBlockE, bodyQ]))
  refine leaveN (vs := [encK (keyI i)]) (resv_cells (cs := [.int .i64 1, S [UInt8.ofNat (97 + i)]]) (e := 28) (fr := (0, 0)) rfl rfl (World.putObj_heap_same (lt_of_heap hc23)) rfl resv_nil) ⟨rfl, (hk2.trans hk3).trans' ((Keeps.refl (· = b2) w3).put _ (fun _ => rfl)) (fun i hi e => by omega)⟩
def WI (k : KY) (n : Int) : KY → Int := setW (fun _ => 0) k n
theorem wantI {i : Nat} (h : i < 26) (n : Int) : wantP (WI (keyI i) n) (keyI i) = n := by
  have h1 := (keyI_ok h).2
  unfold wantP
  rw [if_pos (keyI_ok h).1, if_neg h1]
  have h2 : WI (keyI i) n (keyI i) = n := by simp [WI, setW]
  have h3 : WI (keyI i) n ((keyI i).1, star) = 0 := by
    unfold WI setW
    rw [if_neg]
    intro e
    exact h1 (congrArg Prod.snd e).symm
  rw [h2, h3]
  omega
theorem key_ins (i n : Nat) (L : List KY) (h : L = (List.range i).map keyI) : L ++ [keyI i] = (List.range (i + 1)).map keyI := by rw [h, List.range_succ, List.map_append]; rfl
theorem range_nodup {n : Nat} (h : n ≤ 26) : ((List.range n).map keyI).Nodup := by
  have h1 : ∀ n, n ≤ 26 → ((List.range n).map keyI).Nodup := by decide +kernel
  exact h1 n h
theorem range_mem {i n : Nat} : i < n → keyI i ∈ (List.range n).map keyI := fun h => List.mem_map.2 ⟨i, List.mem_range.2 h, rfl⟩
theorem range_not {i n : Nat} (hn : n ≤ i) (hi : i < 26) : keyI i ∉ (List.range n).map keyI := by
  intro h
  obtain ⟨j, hj, e⟩ := List.mem_map.1 h
  have hj' := List.mem_range.1 hj
  have := keyI_inj (by omega) hi e
  omega
set_option maxRecDepth 100000 in
set_option maxHeartbeats 8000000 in
theorem cuts_law (many which seq : Nat) (hm : many < 256) (hw : which < 256) (hq : seq < 256) (w : World) :
    Ca Tryd.prog 8 #[.int .u8 (many : Int), .int .u8 (which : Int), .int .u8 (seq : Int)] w fun v w' => v = .bool true ∧ Keeps NoB w w' := by
  refine ca_of_body (args := [.int .u8 (many : Int), .int .u8 (which : Int), .int .u8 (seq : Int)]) Tryd.func8 rfl (by kernel_rfl) ?_
  (repeat first | (apply wr_assign; exact rfl; with_reducible (conv => enter [6, 3]; whnf)) | apply wr_end | apply wc_seq | apply wc_region)
  refine wr_call (vs := []) rfl (examples_ca w) rfl ?_
  rintro v w1 ⟨rfl, hk1⟩
  (repeat first | (apply wr_move; exact rfl; with_reducible (conv => enter [6, 3]; whnf)) | (apply wr_assign; exact rfl; with_reducible (conv => enter [6, 3]; whnf)) | apply wr_end | apply wc_seq | apply wc_region | apply wc_skip | (apply wr_not; iterate 2 exact rfl) | (apply wc_false; exact rfl))
  refine wr_remN (n := many) (m := 12) rfl rfl rfl (by decide) ?_
  obtain ⟨n, hn⟩ : ∃ n, n = 1 + many % 12 := ⟨_, rfl⟩
  have hcn : (1 : Int) + ((many % 12 : Nat) : Int) = (n : Int) := by omega
  (repeat first | (apply wr_assign; exact rfl; with_reducible (conv => enter [6, 3]; whnf)) | apply wr_end | apply wc_seq | apply wc_region | (apply wr_add; (iterate 3 exact rfl); exact w_fit (by dsimp only [kIn]; first | done | omega)) | (apply wr_conv; (iterate 2 exact rfl); exact w_fit (by dsimp only [kIn]; first | done | omega)))
  rw [hcn]
  refine wr_call (vs := [.int .i64 20, .int .u64 5]) rfl (new_ca 20 (by decide) 5 w1) rfl ?_
  rintro v w2 ⟨sb, kb, wb, rfl, h2, hk2, hs1, hs2, hs3⟩
  have hro : roomOf 20 = 20 := by decide
  rw [hro] at h2
  (repeat first | (apply wr_move; exact rfl; with_reducible (conv => enter [6, 3]; whnf)) | (apply wr_assign; exact rfl; with_reducible (conv => enter [6, 3]; whnf)) | apply wr_end | apply wc_seq | apply wc_region)
  refine wr_ptrNil rfl rfl ?_
  (repeat first | (apply wr_assign; exact rfl; with_reducible (conv => enter [6, 3]; whnf)) | apply wr_end | apply wc_seq | apply wc_region | apply wc_skip | apply wc_block | (apply wc_false; exact rfl))
  have hz1 := hk1.size
  refine wc_loopL (α := Nat × KL) (fun p => [(1, .int .u8 (which : Int)), (2, .int .u8 (seq : Int)), (7, .bool true), (8, .int .i64 (n : Int)), (9, .pointer (some ⟨sb, 0, none⟩)), (10, .func (.func 20) #[] #[]), (11, .int .i64 (p.1 : Int))])
    (fun p ds w' => ds = [] ∧ p.1 ≤ n ∧ p.2.map (·.1) = (List.range p.1).map keyI ∧ St w' sb kb wb 20 5 p.2 (fun _ => 0) ∧ Keeps NoB w w')
    (fun p => n - p.1) (0, []) ⟨rfl, Nat.zero_le _, rfl, h2, hk1.trans hk2⟩ ⟨rfl, rfl, rfl, rfl, rfl, rfl, rfl, trivial⟩ ?_
  rintro ⟨i, K⟩ ds f0 w5 ⟨rfl, hin, hKk, h5, hkw5⟩
  dsimp only at hin hKk h5 ⊢
  have hKlen : K.length = i := by
    have := congrArg List.length hKk
    simpa using this
  have hKs : ∀ x ∈ K, x.1.2.length ≤ 9223372036854775807 := fun x hx => by
    have h1 : x.1 ∈ K.map (·.1) := List.mem_map.2 ⟨x, hx, rfl⟩
    rw [hKk] at h1
    obtain ⟨j, _, e⟩ := List.mem_map.1 h1
    rw [← e]; exact keyI_short j
  by_cases hgo : i < n
  · have hi26 : i < 26 := by omega
    have hnk : keyI i ∉ K.map (·.1) := by rw [hKk]; exact range_not (Nat.le_refl _) hi26
    (repeat first | (apply wr_move; exact rfl; with_reducible (conv => enter [6, 3]; whnf)) | apply wr_end | apply wc_seq | apply wc_region | apply wc_skip | apply wc_block | (apply wr_cmp; (iterate 3 exact rfl); exact cmpT (by dsimp only [cmpP]; first | done | omega)) | (apply wc_true; exact rfl))
    refine wr_callv (vs := [.int .i64 (i : Int)]) rfl (callV_func (first := #[]) (cap := #[]) (by kernel_rfl) (keyCuts_ca i hi26 w5)) rfl rfl ?_
    rintro v w6 ⟨rfl, hk6⟩
    refine wr_build (ps := [(0, encK (keyI i)), (1, .int .u64 100)]) (cs := GRd (resI i 100)) rfl rfl rfl rfl ?_
    refine wr_call (vs := [.pointer (some ⟨sb, 0, none⟩), RdV (resI i 100), .int .u64 0]) rfl (put_ca (h5.keep hk6) (resI i 100) 0 (fun _ => .inl (by omega)) hKs (keyI_short i) (Nat.zero_le _)) rfl ?_
    have hE : putE 20 K (resI i 100) = 0 := by
      unfold putE
      rw [if_pos (resI_ok hi26 (by decide) (by decide)), show getL K (keyR (resI i 100)) = none from getL_none hnk]
      dsimp only
      rw [if_pos (by omega)]
    rw [hE]
    rintro v w7 ⟨rfl, ⟨hne, _⟩ | ⟨_, g, _, h7, hk7⟩⟩
    · exact absurd rfl hne
    rw [show keyR (resI i 100) = keyI i from rfl, putL_new _ hnk] at h7
    (repeat first | (apply wr_move; exact rfl; with_reducible (conv => enter [6, 3]; whnf)) | (apply wr_assign; exact rfl; with_reducible (conv => enter [6, 3]; whnf)) | apply wr_end | apply wc_region | apply wc_skip | (apply wr_cmp; (iterate 3 exact rfl); exact cmpF (by dsimp only [cmpN]; first | done | omega)) | (apply wr_add; (iterate 3 exact rfl); exact w_fit (by dsimp only [kIn]; first | done | omega)) | (apply wc_false; exact rfl))
    refine ⟨(i + 1, _), by dsimp only; omega, ⟨by trivial, by dsimp only; omega, ?_, h7, (hkw5.trans hk6).trans' hk7 (fun i hi e => by omega)⟩, rfl, rfl, rfl, rfl, rfl, rfl, rfl, trivial⟩
    dsimp only
    rw [List.map_append, hKk, List.range_succ, List.map_append]; rfl
  · have hi : i = n := by omega
    subst hi
    obtain ⟨j, hj⟩ : ∃ j, j = which % i := ⟨_, rfl⟩
    have hji : j < i := by rw [hj]; exact Nat.mod_lt _ (by omega)
    have hj26 : j < 26 := by omega
    (repeat first | (apply wr_move; exact rfl; with_reducible (conv => enter [6, 3]; whnf)) | apply wr_end | apply wc_seq | apply wc_region | (apply wr_cmp; (iterate 3 exact rfl); exact cmpF (by dsimp only [cmpN]; first | done | omega)) | (apply wr_conv; (iterate 2 exact rfl); exact w_fit (by dsimp only [kIn]; first | done | omega)) | (apply wc_false; exact rfl) | (apply wc_exit; try simp only [thenE, inBlockE, bodyQ, ↓reduceIte, Nat.reduceEqDiff]))
    refine wr_remN (n := which) (m := i) rfl rfl rfl (by omega) ?_
    rw [← hj]
    refine wr_callv (vs := [.int .i64 (j : Int)]) rfl (callV_func (first := #[]) (cap := #[]) (by kernel_rfl) (keyCuts_ca j hj26 w5)) rfl rfl ?_
    rintro v w6 ⟨rfl, hk6⟩
    (repeat first | (apply wr_alloc; exact rfl))
    refine wr_storeAll (cs := [.int .i64 1, S [UInt8.ofNat (97 + j)]]) rfl rfl rfl (by intro u hu; simp at hu; rcases hu with rfl | rfl <;> rfl) (heap_alloc_same _ _) rfl rfl ?_
    refine wr_name ?_
    intro wk hwwk
    obtain ⟨bwk, hbwk⟩ : ∃ b, b = (w6).heap.size := ⟨_, rfl⟩
    have hkwk : Keeps NoB w6 wk := by rw [hwwk]; exact ((Keeps.refl NoB w6).alloc _).put _ (fun h => by omega)
    have hcwk : (wk).heap[bwk]? = some (.cells ([.int .i64 1, S [UInt8.ofNat (97 + j)]]).toArray 28 (0, 0)) := by rw [hwwk, hbwk]; exact World.putObj_heap_same (by simp)
    rw [← hbwk]
    clear hwwk
    have h7 := (h5.keep hk6).keep hkwk
    have hkw7 := (hkw5.trans hk6).trans hkwk
    (repeat first | (apply wr_move; exact rfl; with_reducible (conv => enter [6, 3]; whnf)) | apply wr_end | apply wc_seq | apply wc_region)
    refine wr_loadAll (cs := [.int .i64 1, S [UInt8.ofNat (97 + j)]]) rfl rfl rfl hcwk rfl ?_
    refine wr_call (vs := [.pointer (some ⟨sb, 0, none⟩), encK (keyI j), .int .i64 2]) rfl (watch_ca h7 (keyI j) (keyI_short j) 2 (by decide)) rfl ?_
    rintro v w8 (⟨_, rfl, h8, hk8⟩ | ⟨hno, _⟩)
    rotate_left
    · exact absurd ⟨(keyI_ok hj26).1, show -(0 : Int) ≤ 2 by decide, show (2 : Int) ≤ 2147483647 - 0 by decide⟩ hno
    have hW8 : setW (fun _ => 0) (keyI j) ((fun _ => (0 : Int)) (keyI j) + 2) = WI (keyI j) 2 := rfl
    rw [hW8] at h8
    obtain ⟨M7, hM7, _⟩ := h7.watch
    have hc8 := hk8.heap hcwk (map_cells hM7 hcwk)
    have hkw8 : Keeps NoB w w8 := hkw7.trans' hk8 (fun i hi e => by omega)
    have hjK : keyI j ∈ K.map (·.1) := by rw [hKk]; exact range_mem hji
    have hndK : (K.map (·.1)).Nodup := by rw [hKk]; exact range_nodup (by omega)
    (repeat first | (apply wr_move; exact rfl; with_reducible (conv => enter [6, 3]; whnf)) | apply wr_end | apply wc_seq | apply wc_region)
    refine wr_loadAll (cs := [.int .i64 1, S [UInt8.ofNat (97 + j)]]) rfl rfl rfl hc8 rfl ?_
    refine wr_call (vs := [.pointer (some ⟨sb, 0, none⟩), encK (keyI j)]) rfl (cut_ca h8 (keyI j)) rfl ?_
    rintro v w9 ⟨rfl, h9, hk9⟩
    rw [getL_some hjK]
    have hc9 := hk9.heap hc8 (map_cells h8.kept hc8)
    have hkw9 : Keeps NoB w w9 := hkw8.trans' hk9 (fun i hi e => by omega)
    (repeat first | (apply wr_move; exact rfl; with_reducible (conv => enter [6, 3]; whnf)) | (apply wr_assign; exact rfl; with_reducible (conv => enter [6, 3]; whnf)) | apply wr_end | apply wc_seq | apply wc_region)
    refine wr_loadAll (cs := [.int .i64 1, S [UInt8.ofNat (97 + j)]]) rfl rfl rfl hc9 rfl ?_
    refine wr_call (vs := [.pointer (some ⟨sb, 0, none⟩), encK (keyI j)]) rfl (cut_ca h9 (keyI j)) rfl ?_
    rintro v w10 ⟨rfl, h10, hk10⟩
    have hjd : keyI j ∉ (delL K (keyI j)).map (·.1) := fun h => (del_mem.1 h).1 rfl
    rw [getL_del, delL_none hjd] at *
    have hc10 := hk10.heap hc9 (map_cells h9.kept hc9)
    have hkw10 : Keeps NoB w w10 := hkw9.trans' hk10 (fun i hi e => by omega)
    dsimp only [Option.isSome]
    (repeat first | (apply wr_move; exact rfl; with_reducible (conv => enter [6, 3]; whnf)) | (apply wr_assign; exact rfl; with_reducible (conv => enter [6, 3]; whnf)) | apply wr_end | apply wc_seq | apply wc_region)
    refine wr_loadAll (cs := [.int .i64 1, S [UInt8.ofNat (97 + j)]]) rfl rfl rfl hc10 rfl ?_
    refine wr_call (vs := [.pointer (some ⟨sb, 0, none⟩), encK (keyI j)]) rfl (get_ca h10 (keyI j)) rfl ?_
    rintro v w11 ⟨rfl, hk11⟩
    rw [getL_del]
    dsimp only [Option.isSome, gotR]
    have hc11 := hk11.heap hc10 (fun h => h)
    (repeat first | (apply wr_move; exact rfl; with_reducible (conv => enter [6, 3]; whnf)) | (apply wr_alloc; exact rfl) | (apply wr_extract; (iterate 3 exact rfl); with_reducible (conv => enter [6, 3]; whnf)))
    refine wr_storeAll (cs := GRd zeroR) rfl rfl rfl (GRd_one _) (heap_alloc_same _ _) rfl rfl ?_
    refine wr_name ?_
    intro wy hwwy
    obtain ⟨bwy, hbwy⟩ : ∃ b, b = (w11).heap.size := ⟨_, rfl⟩
    have hkwy : Keeps NoB w11 wy := by rw [hwwy]; exact ((Keeps.refl NoB w11).alloc _).put _ (fun h => by omega)
    have hcwy : (wy).heap[bwy]? = some (.cells (GRd zeroR).toArray 30 (0, 0)) := by rw [hwwy, hbwy]; exact World.putObj_heap_same (by simp)
    rw [← hbwy]
    clear hwwy
    have hc12 := hkwy.heap hc11 (fun h => h)
    have h12 := (h10.keep hk11).keep hkwy
    have hkw12 := (hkw10.trans hk11).trans hkwy
    have hKl := delL_len hndK hjK
    have hs50 : seq % 50 < 50 := Nat.mod_lt _ (by decide)
    have hcs : (1 : Int) + ((seq % 50 : Nat) : Int) = ((1 + seq % 50 : Nat) : Int) := by omega
    (repeat first | (apply wr_move; exact rfl; with_reducible (conv => enter [6, 3]; whnf)) | (apply wr_assign; exact rfl; with_reducible (conv => enter [6, 3]; whnf)) | apply wr_end | apply wc_seq | apply wc_region)
    refine wr_loadAll (cs := [.int .i64 1, S [UInt8.ofNat (97 + j)]]) rfl rfl rfl hc12 rfl ?_
    (repeat first | (apply wr_move; exact rfl; with_reducible (conv => enter [6, 3]; whnf)))
    refine wr_remN (n := seq) (m := 50) rfl rfl rfl (by decide) ?_
    (repeat first | (apply wr_add; (iterate 3 exact rfl); exact w_fit (by dsimp only [kIn]; first | done | omega)) | (apply wr_conv; (iterate 2 exact rfl); exact w_fit (by dsimp only [kIn]; first | done | omega)))
    rw [hcs]
    refine wr_build (ps := [(0, encK (keyI j)), (1, .int .u64 ((1 + seq % 50 : Nat) : Int))]) (cs := GRd (resI j (1 + seq % 50))) rfl rfl rfl rfl ?_
    refine wr_call (vs := [.pointer (some ⟨sb, 0, none⟩), RdV (resI j (1 + seq % 50)), .int .u64 0]) rfl (put_ca h12 (resI j (1 + seq % 50)) 0 (fun _ => .inl (by omega)) (fun x hx => hKs x (List.mem_filter.1 hx).1) (keyI_short j) (Nat.zero_le _)) rfl ?_
    have hE : putE 20 (delL K (keyI j)) (resI j (1 + seq % 50)) = 0 := by
      unfold putE
      rw [if_pos (resI_ok hj26 (by omega) (by omega)), show getL (delL K (keyI j)) (keyR (resI j (1 + seq % 50))) = none from getL_del _ _]
      dsimp only
      rw [if_pos (by omega)]
    rw [hE]
    rintro v w13 ⟨rfl, ⟨hne, _⟩ | ⟨_, g, _, h13, hk13⟩⟩
    · exact absurd rfl hne
    rw [show keyR (resI j (1 + seq % 50)) = keyI j from rfl, putL_new _ hjd] at h13
    have hc13 := hk13.heap hc12 (map_cells h12.kept hc12)
    have hkw13 : Keeps NoB w w13 := hkw12.trans' hk13 (fun i hi e => by omega)
    obtain ⟨e0, he0⟩ : ∃ e : EN, e = (resI j (1 + seq % 50), decide (wantP (WI (keyI j) 2) (keyI j) = 0), 0) := ⟨_, rfl⟩
    rw [← he0] at h13
    have hgl : getL (delL K (keyI j) ++ [(keyI j, (g, e0))]) (keyI j) = some (g, e0) := by
      rw [← putL_new (g, e0) hjd, getL_put_same]
    (repeat first | (apply wr_move; exact rfl; with_reducible (conv => enter [6, 3]; whnf)) | (apply wr_assign; exact rfl; with_reducible (conv => enter [6, 3]; whnf)) | apply wr_end | apply wc_seq | apply wc_region)
    refine wr_loadAll (cs := [.int .i64 1, S [UInt8.ofNat (97 + j)]]) rfl rfl rfl hc13 rfl ?_
    refine wr_call (vs := [.pointer (some ⟨sb, 0, none⟩), encK (keyI j)]) rfl (get_ca h13 (keyI j)) rfl ?_
    rintro v w14 ⟨rfl, hk14⟩
    rw [hgl]
    dsimp only [Option.isSome, gotR]
    rw [he0]
    dsimp only
    have hc14 := hk14.heap hc13 (fun h => h)
    (repeat first | (apply wr_move; exact rfl; with_reducible (conv => enter [6, 3]; whnf)) | (apply wr_alloc; exact rfl) | (apply wr_extract; (iterate 3 exact rfl); with_reducible (conv => enter [6, 3]; whnf)))
    refine wr_storeAll (cs := GRd (resI j (1 + seq % 50))) rfl rfl rfl (GRd_one _) (heap_alloc_same _ _) rfl rfl ?_
    refine wr_name ?_
    intro wz hwwz
    obtain ⟨bwz, hbwz⟩ : ∃ b, b = (w14).heap.size := ⟨_, rfl⟩
    have hkwz : Keeps NoB w14 wz := by rw [hwwz]; exact ((Keeps.refl NoB w14).alloc _).put _ (fun h => by omega)
    have hcwz : (wz).heap[bwz]? = some (.cells (GRd (resI j (1 + seq % 50))).toArray 30 (0, 0)) := by rw [hwwz, hbwz]; exact World.putObj_heap_same (by simp)
    rw [← hbwz]
    clear hwwz
    have hc15 := hkwz.heap hc14 (fun h => h)
    have h15 := (h13.keep hk14).keep hkwz
    have hkw15 := (hkw13.trans hk14).trans hkwz
    (repeat first | (apply wr_move; exact rfl; with_reducible (conv => enter [6, 3]; whnf)) | (apply wr_assign; exact rfl; with_reducible (conv => enter [6, 3]; whnf)) | apply wr_end | apply wc_seq | apply wc_region)
    refine wr_call (vs := [.pointer (some ⟨sb, 0, none⟩)]) rfl (len_ca h15) rfl ?_
    rintro v w16 ⟨rfl, rfl⟩
    have hln : (delL K (keyI j) ++ [(keyI j, (g, e0))]).length = i := by simp; omega
    rw [hln]
    (repeat first | (apply wr_move; exact rfl; with_reducible (conv => enter [6, 3]; whnf)) | (apply wr_assign; exact rfl; with_reducible (conv => enter [6, 3]; whnf)) | apply wr_end | apply wc_seq | apply wc_region)
    refine wr_call (vs := [.pointer (some ⟨sb, 0, none⟩)]) rfl (reset_ca h15) rfl ?_
    rintro v w17 ⟨rfl, h17, hk17⟩
    have hc17 := hk17.heap hc15 (map_cells h15.kept hc15)
    have hcz17 := hk17.heap hcwz (map_cells h15.kept hcwz)
    have hkw17 : Keeps NoB w w17 := hkw15.trans' hk17 (fun i hi e => by omega)
    (repeat first | (apply wr_move; exact rfl; with_reducible (conv => enter [6, 3]; whnf)) | apply wr_end | apply wc_seq | apply wc_region | (apply wr_fieldAddr; iterate 2 exact rfl) | (apply wr_not; iterate 2 exact rfl) | (apply wr_load; (iterate 3 exact rfl); (focus repeat first | with_reducible assumption | exact heap_alloc_same _ _ | exact World.putObj_heap_same (by first | omega | (simp only [World.size_alloc, World.putObj_size, ne_eq]; omega)) | ((first | refine hAl ?_ ?_ | refine hPu ?_ ?_); focus first | omega | (simp only [World.size_alloc, World.putObj_size, ne_eq]; omega))); exact rfl; conv => enter [6, 3]; whnf) | (apply wr_cmp; (iterate 3 exact rfl); exact cmpT (by dsimp only [cmpP]; first | done | omega)) | (apply wr_pick (t := true); (iterate 2 exact rfl); with_reducible (conv => enter [6, 3]; whnf)))
    refine wr_remN (n := seq) (m := 50) rfl rfl rfl (by decide) ?_
    have hq1 : (resI j (1 + seq % 50)).2.2.1 = 1 + seq % 50 := rfl
    have hq2 : (((resI j (1 + seq % 50)).2.2.1 : Nat) : Int) = 1 + ((seq % 50 : Nat) : Int) := by rw [hq1]; omega
    (repeat first | (apply wr_move; exact rfl; with_reducible (conv => enter [6, 3]; whnf)) | (apply wr_cmp; (iterate 3 exact rfl); exact cmpT (by dsimp only [cmpP]; first | done | omega)) | (apply wr_pick (t := true); (iterate 2 exact rfl); with_reducible (conv => enter [6, 3]; whnf)) | (apply wr_add; (iterate 3 exact rfl); exact w_fit (by dsimp only [kIn]; first | done | omega)) | (apply wr_conv; (iterate 2 exact rfl); exact w_fit (by dsimp only [kIn]; first | done | omega)))
    refine wr_call (vs := [.pointer (some ⟨sb, 0, none⟩)]) rfl (len_ca h17) rfl ?_
    rintro v w18 ⟨rfl, rfl⟩
    (repeat first | (apply wr_move; exact rfl; with_reducible (conv => enter [6, 3]; whnf)) | (apply wr_cmp; (iterate 3 exact rfl); exact cmpT (by dsimp only [cmpP]; first | done | omega)) | (apply wr_pick (t := true); (iterate 2 exact rfl); with_reducible (conv => enter [6, 3]; whnf)))
    refine wr_loadAll (cs := [.int .i64 1, S [UInt8.ofNat (97 + j)]]) rfl rfl rfl hc17 rfl ?_
    refine wr_call (vs := [.pointer (some ⟨sb, 0, none⟩), encK (keyI j)]) rfl (wanted_ca h17 (keyI j) (keyI_short j)) rfl ?_
    rintro v w19 ⟨rfl, hk19⟩
    rw [wantI hj26]
    have h19 := h17.keep hk19
    (repeat first | (apply wr_move; exact rfl; with_reducible (conv => enter [6, 3]; whnf)) | (apply wr_cmp; (iterate 3 exact rfl); exact cmpT (by dsimp only [cmpP]; first | done | omega)) | (apply wr_pick (t := true); (iterate 2 exact rfl); with_reducible (conv => enter [6, 3]; whnf)))
    refine wr_call (vs := [.pointer (some ⟨sb, 0, none⟩), .int .i64 1]) rfl (list_ca 1 sortsR1 h19 1 (by simp) (by simp [listR])) rfl ?_
    rintro v w20 ⟨l, hl, _, hown, hk20⟩
    have hll : l.length = 0 := by rw [hl.length_eq]; simp [listR]
    obtain ⟨a, c, rfl⟩ := own_sl hown
    rw [hll]
    (repeat first | (apply wr_assign; exact rfl; with_reducible (conv => enter [6, 3]; whnf)) | apply wr_end | (apply wr_len_slice; iterate 2 exact rfl) | (apply wr_cmp; (iterate 3 exact rfl); exact cmpT (by dsimp only [cmpP]; first | done | omega)) | (apply wr_pick (t := true); (iterate 2 exact rfl); with_reducible (conv => enter [6, 3]; whnf)) | (apply wc_ret; try simp only [thenE, inBlockE, bodyQ]))
    exact leave1 (v := .bool true) rfl rfl ⟨rfl, (hkw17.trans hk19).trans hk20⟩
end Go.Proofs.YtafnbbehmbmchaaDoor
