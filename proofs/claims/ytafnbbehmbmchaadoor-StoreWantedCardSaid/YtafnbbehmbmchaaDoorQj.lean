/- StoreWanted: the walk. -/
import Derived.Test.YtafnbbehmbmchaaDoorQi
namespace Go.Proofs.YtafnbbehmbmchaaDoor
open Go Go.V Go.RowKit
set_option linter.unusedVariables false
set_option linter.unusedSimpArgs false

structure Full (base n wd : Nat) (W : KY → Int) (K : KL) : Prop where
  fit : Fit n K
  who : ∀ k, (k ∈ K.map (·.1) ∧ 0 < wantP W k) ↔ ∃ j, j < n ∧ bitW wd j = true ∧ k = keyJ j
  len : K.length = n
  low : ∀ x ∈ K, base ≤ x.2.1
theorem full_all {base n wd : Nat} {W : KY → Int} {K : KL} (hK : KJ wd n K) (hW : WJ wd n W) (hn : n ≤ 12) (hc : ∀ j, j < n → bitW wd j = true) (hl : ∀ x ∈ K, base ≤ x.2.1) : Full base n wd W K where
  fit := ⟨by rw [hK.keys]; exact rangeJ_nodup (by omega), fun x hx => by
      obtain ⟨j, _, e1, e2⟩ := hK.of hx
      rw [e1, e2]; rfl, fun x hx => by
      obtain ⟨j, _, e1, e2⟩ := hK.of hx
      rw [e1]; exact keyJ_short j, fun x hx => by
      obtain ⟨j, _, e1, e2⟩ := hK.of hx
      rw [e2]; exact Nat.zero_le _, by rw [hK.len]; exact Nat.le_refl _⟩
  who := fun k => by
    rw [hK.keys, List.mem_map]
    constructor
    · rintro ⟨⟨j, hj, rfl⟩, _⟩
      have := List.mem_range.1 hj
      exact ⟨j, this, hc j this, rfl⟩
    · rintro ⟨j, hj, hb, rfl⟩
      exact ⟨⟨j, List.mem_range.2 hj, rfl⟩, by rw [hW.want (by omega), if_pos ⟨hj, hb⟩]; decide⟩
  len := hK.len
  low := hl
theorem full_one {base n wd g : Nat} {W : KY → Int} {K : KL} {b : Bool} (hK : KJ wd n K) (hW : WJ wd n W) (hn : n ≤ 12) (hl : ∀ x ∈ K, base ≤ x.2.1) (hg : base ≤ g) {x : KY × PE} (hx : x ∈ K) (hu : ¬ 0 < wantP W x.1) : Full base n wd W (putL (delL K x.1) keyZ (g, (resZ, b, 1))) := by
  have hndK : (K.map (·.1)).Nodup := by rw [hK.keys]; exact rangeJ_nodup (by omega)
  have hz : keyZ ∉ (delL K x.1).map (·.1) := fun h => by
    have := (del_mem.1 h).2
    rw [hK.keys] at this
    exact zJ_not n this
  have hdl := delL_len hndK (List.mem_map.2 ⟨x, hx, rfl⟩)
  have hlen := hK.len
  have hof : ∀ y ∈ delL K x.1 ++ [(keyZ, (g, ((resZ, b, 1) : EN)))], y ∈ K ∨ y = (keyZ, (g, (resZ, b, 1))) := fun y hy => by
    rcases List.mem_append.1 hy with hy | hy
    · exact .inl (List.mem_filter.1 hy).1
    · exact .inr (by simpa using hy)
  rw [putL_new _ hz]
  refine ⟨⟨?_, fun y hy => ?_, fun y hy => ?_, fun y hy => ?_, ?_⟩, fun k => ?_, ?_, fun y hy => ?_⟩
  · rw [List.map_append, List.nodup_append]
    refine ⟨hndK.sublist (List.filter_sublist.map _), by simp, fun a ha c hc e => ?_⟩
    simp only [List.map_cons, List.map_nil, List.mem_singleton] at hc
    subst hc
    subst e
    exact hz ha
  · rcases hof y hy with hy | rfl
    · obtain ⟨j, _, e1, e2⟩ := hK.of hy
      rw [e1, e2]; rfl
    · rfl
  · rcases hof y hy with hy | rfl
    · obtain ⟨j, _, e1, e2⟩ := hK.of hy
      rw [e1]; exact keyJ_short j
    · show 1 ≤ 9223372036854775807
      decide
  · rcases hof y hy with hy | rfl
    · obtain ⟨j, _, e1, e2⟩ := hK.of hy
      rw [e2]; exact Nat.zero_le _
    · exact Nat.le_refl 1
  · rw [List.length_append, List.length_singleton]; omega
  · rw [List.map_append, List.mem_append, del_mem, hK.keys, List.mem_map]
    constructor
    · rintro ⟨⟨_, j, hj, rfl⟩ | hk, hw⟩
      · have hj' := List.mem_range.1 hj
        refine ⟨j, hj', ?_, rfl⟩
        rw [hW.want (by omega)] at hw
        split at hw
        · rename_i h; exact h.2
        · omega
      · simp only [List.map_cons, List.map_nil, List.mem_singleton] at hk
        subst hk
        rw [hW.wantZ] at hw
        omega
    · rintro ⟨j, hj, hb, rfl⟩
      have hw : 0 < wantP W (keyJ j) := by rw [hW.want (by omega), if_pos ⟨hj, hb⟩]; decide
      exact ⟨.inl ⟨fun e => hu (by rw [← e]; exact hw), j, List.mem_range.2 hj, rfl⟩, hw⟩
  · rw [List.length_append, List.length_singleton]; omega
  · rcases hof y hy with hy | rfl
    · exact hl y hy
    · exact hg
theorem upd_blk {W : KY → Int} {now : Nat} {G : List KY} {K : KL} {base : Nat} (h : ∀ x ∈ K, base ≤ x.2.1) : ∀ x ∈ sweptK W now G K, base ≤ x.2.1 := fun x hx => by
  obtain ⟨_, y, hy, rfl⟩ := swept_of hx
  exact h y hy
/- A key by its number: $1 the world ahead, $2 the one behind, its text. -/
/- The bit of i. -/
/- Put in the first loop. -/
/- Behind the Put of z: $1 world, $2 St, $3 Full, $4 Keeps from w. -/
set_option maxRecDepth 100000 in
set_option maxHeartbeats 8000000 in
theorem wanted_law (wd grace many : Nat) (hwd : wd < 65536) (hgr : grace < 256) (hm : many < 256) (w : World) :
    Ca Tryd.prog 4 #[.int .u16 (wd : Int), .int .u8 (grace : Int), .int .u8 (many : Int)] w fun v w' => v = .bool true ∧ Keeps NoB w w' := by
  refine ca_of_body (args := [.int .u16 (wd : Int), .int .u8 (grace : Int), .int .u8 (many : Int)]) Tryd.func4 rfl (by kernel_rfl) ?_
  (repeat first | (apply wr_assign; exact rfl; with_reducible (conv => enter [6, 3]; whnf)) | apply wr_end | apply wc_seq | apply wc_region)
  refine wr_call (vs := []) rfl (examples_ca w) rfl ?_
  rintro v w1 ⟨rfl, hk1⟩
  (repeat first | (apply wr_move; exact rfl; with_reducible (conv => enter [6, 3]; whnf)) | (apply wr_assign; exact rfl; with_reducible (conv => enter [6, 3]; whnf)) | apply wr_end | apply wc_seq | apply wc_region | apply wc_skip | (apply wr_not; iterate 2 exact rfl) | (apply wc_false; exact rfl))
  refine wr_remN (n := many) (m := 12) rfl rfl rfl (by decide) ?_
  obtain ⟨n, hn⟩ : ∃ n, n = 1 + many % 12 := ⟨_, rfl⟩
  have hcn : (1 : Int) + ((many % 12 : Nat) : Int) = (n : Int) := by omega
  (repeat first | (apply wr_move; exact rfl; with_reducible (conv => enter [6, 3]; whnf)) | (apply wr_assign; exact rfl; with_reducible (conv => enter [6, 3]; whnf)) | apply wr_end | apply wc_seq | apply wc_region | (apply wr_add; (iterate 3 exact rfl); exact w_fit (by dsimp only [kIn]; first | done | omega)) | (apply wr_conv; (iterate 2 exact rfl); exact w_fit (by dsimp only [kIn]; first | done | omega)))
  rw [hcn]
  refine wr_remN (n := grace) (m := 10) rfl rfl rfl (by decide) ?_
  obtain ⟨gr, hgr'⟩ : ∃ g, g = grace % 10 := ⟨_, rfl⟩
  rw [← hgr']
  have hg10 : gr < 10 := by omega
  (repeat first | (apply wr_move; exact rfl; with_reducible (conv => enter [6, 3]; whnf)) | (apply wr_assign; exact rfl; with_reducible (conv => enter [6, 3]; whnf)) | apply wr_end | apply wc_seq | apply wc_region | (apply wr_conv; (iterate 2 exact rfl); exact w_fit (by dsimp only [kIn]; first | done | omega)))
  refine wr_call (vs := [.int .i64 (n : Int), .int .u64 (gr : Int)]) rfl (new_ca (n : Int) (by omega) gr w1) rfl ?_
  rintro v w2 ⟨sb, kb, wb, rfl, h2, hk2, hs1, hs2, hs3⟩
  have hro : roomOf (n : Int) = (n : Int) := by unfold roomOf; omega
  rw [hro] at h2
  (repeat first | (apply wr_move; exact rfl; with_reducible (conv => enter [6, 3]; whnf)) | (apply wr_assign; exact rfl; with_reducible (conv => enter [6, 3]; whnf)) | apply wr_end | apply wc_seq | apply wc_region)
  refine wr_ptrNil rfl rfl ?_
  have hz1 := hk1.size
  have hlkb := h2.kept.lt
  (repeat first | (apply wr_assign; exact rfl; with_reducible (conv => enter [6, 3]; whnf)) | apply wr_end | apply wc_seq | apply wc_region | apply wc_skip | apply wc_block | (apply wc_false; exact rfl))
  refine wc_loopL (α := Nat × KL × (KY → Int)) (fun p => [(0, .int .u16 (wd : Int)), (7, .bool true), (8, .int .i64 (n : Int)), (9, .int .u64 (gr : Int)), (10, .pointer (some ⟨sb, 0, none⟩)), (11, .int .i64 (cnt wd p.1 : Int)), (12, .int .i64 (p.1 : Int))])
    (fun p ds w' => ds = [] ∧ p.1 ≤ n ∧ KJ wd p.1 p.2.1 ∧ WJ wd p.1 p.2.2 ∧ St w' sb kb wb n gr p.2.1 p.2.2 ∧ (∀ x ∈ p.2.1, w.heap.size ≤ x.2.1) ∧ Keeps NoB w w')
    (fun p => n - p.1) (0, [], fun _ => 0) ⟨rfl, Nat.zero_le _, rfl, ⟨fun j _ => by simp, rfl, rfl, rfl⟩, h2, (fun x hx => by cases hx), hk1.trans hk2⟩ ⟨rfl, rfl, rfl, rfl, rfl, rfl, rfl, trivial⟩ ?_
  rintro ⟨i, K, W⟩ ds f0 w5 ⟨rfl, hin, hKJ, hWJ, h5, hlow, hkw5⟩
  dsimp only at hin hKJ hWJ h5 hlow ⊢
  have hKlen := hKJ.len
  have hKs : ∀ x ∈ K, x.1.2.length ≤ 9223372036854775807 := fun x hx => by
    obtain ⟨q, _, e, _⟩ := hKJ.of hx
    rw [e]; exact keyJ_short q
  have hcle := cnt_le wd i
  by_cases hgo : i < n
  · have hi26 : i < 26 := by omega
    have hnk : keyJ i ∉ K.map (·.1) := by rw [hKJ.keys]; exact rangeJ_not (Nat.le_refl _) hi26
    have hcs := cnt_succ wd i
    obtain ⟨bit, hbit⟩ : ∃ b, b = wd / 2 ^ i % 2 := ⟨_, rfl⟩
    (repeat first | (apply wr_move; exact rfl; with_reducible (conv => enter [6, 3]; whnf)) | apply wr_end | apply wc_seq | apply wc_region | apply wc_skip | apply wc_block | (apply wr_cmp; (iterate 3 exact rfl); exact cmpT (by dsimp only [cmpP]; first | done | omega)) | (apply wr_add; (iterate 3 exact rfl); exact w_fit (by dsimp only [kIn]; first | done | omega)) | (apply wr_conv; (iterate 2 exact rfl); exact w_fit (by dsimp only [kIn]; first | done | omega)) | (apply wc_true; exact rfl))
    refine wr_buildSlice (vs := [.int .u8 (97 + (i : Int))]) rfl rfl (by intro v hv; simp at hv; subst hv; rfl) rfl (by decide) (by decide) (by decide) ?_
    refine wr_name ?_
    intro w6 hww6
    obtain ⟨bw6, hbw6⟩ : ∃ b, b = (w5).heap.size := ⟨_, rfl⟩
    have hkw6 : Keeps NoB w5 w6 := by rw [hww6]; exact (Keeps.refl NoB w5).alloc _
    have hcw6 : (w6).heap[bw6]? = some (.cells #[.int .u8 (97 + (i : Int))] 5 (0, 0)) := by rw [hww6, hbw6]; exact heap_alloc_same _ _
    rw [← hbw6]
    clear hww6
    refine wr_bytes2str (n := 1) (l := [UInt8.ofNat (97 + i)]) rfl rfl ⟨rfl, some ⟨bw6, 0, none⟩, 1, rfl, Nat.le_refl _, .inr ⟨bw6, 0, _, _, _, rfl, hcw6, fun j hj => ?_⟩⟩ ?_
    focus
      match j, hj with
      | 0, _ =>
        have : ((UInt8.ofNat (97 + i)).toNat : Int) = 97 + (i : Int) := by
          rw [UInt8.toNat_ofNat']
          omega
        simp [bytesV, this]
        omega
    refine wr_build (ps := [(0, .int .i64 2), (1, S [UInt8.ofNat (97 + i)])]) (cs := [.int .i64 2, S [UInt8.ofNat (97 + i)]]) rfl rfl rfl rfl ?_
    (repeat first | (apply wr_alloc; exact rfl))
    refine wr_storeAll (cs := [.int .i64 2, S [UInt8.ofNat (97 + i)]]) rfl rfl rfl (by intro u hu; simp at hu; rcases hu with rfl | rfl <;> rfl) (heap_alloc_same _ _) rfl rfl ?_
    refine wr_name ?_
    intro w7 hww7
    obtain ⟨bw7, hbw7⟩ : ∃ b, b = (w6).heap.size := ⟨_, rfl⟩
    have hkw7 : Keeps NoB w6 w7 := by rw [hww7]; exact ((Keeps.refl NoB w6).alloc _).put _ (fun h => by omega)
    have hcw7 : (w7).heap[bw7]? = some (.cells ([.int .i64 2, S [UInt8.ofNat (97 + i)]]).toArray 28 (0, 0)) := by rw [hww7, hbw7]; exact World.putObj_heap_same (by simp)
    rw [← hbw7]
    clear hww7
    have hk57 := hkw6.trans hkw7
    have h7 := h5.keep hk57
    have hkw7' := hkw5.trans hk57
    (repeat first | (apply wr_move; exact rfl; with_reducible (conv => enter [6, 3]; whnf)) | apply wr_end | apply wc_seq | apply wc_region)
    refine wr_shrN i rfl rfl rfl (by show i ≤ 16; omega) ?_
    refine wr_remN (n := wd / 2 ^ i) (m := 2) rfl rfl rfl (by decide) ?_
    rw [← hbit]
    have h01 : bit = 0 ∨ bit = 1 := by omega
    rcases h01 with h01 | h01
    · have hbF : bitW wd i = false := by unfold bitW; rw [← hbit, h01]; rfl
      have hbw : bitW wd i = true ∨ bitW wd i = false := .inr hbF
      rw [hbF] at hcs
      subst h01
      (repeat first | (apply wr_move; exact rfl; with_reducible (conv => enter [6, 3]; whnf)) | apply wr_end | apply wc_seq | apply wc_region | apply wc_skip | (apply wr_cmp; (iterate 3 exact rfl); exact cmpF (by dsimp only [cmpN]; first | done | omega)) | (apply wc_false; exact rfl))
      refine wr_loadAll (cs := [.int .i64 2, S [UInt8.ofNat (97 + i)]]) rfl rfl rfl hcw7 rfl ?_
      refine wr_build (ps := [(0, encK (keyJ i)), (1, .int .u64 1)]) (cs := GRd (resJ i)) rfl rfl rfl rfl ?_
      refine wr_call (vs := [.pointer (some ⟨sb, 0, none⟩), RdV (resJ i), .int .u64 ((0 : Nat) : Int)]) rfl (put_ca h7 (resJ i) 0 (fun _ => .inl (by omega)) hKs (keyJ_short i) (Nat.zero_le _)) rfl ?_
      have hE : putE (n : Int) K (resJ i) = 0 := by
        unfold putE
        rw [if_pos (resJ_ok hi26), show getL K (keyR (resJ i)) = none from getL_none hnk]
        dsimp only
        rw [if_pos (by omega)]
      rw [hE]
      rintro v w9 ⟨rfl, ⟨hne, _⟩ | ⟨_, g, hg, h9, hk9⟩⟩
      focus
        exact absurd rfl hne
      rw [show keyR (resJ i) = keyJ i from rfl] at h9
      have hwi := ((hWJ.skip hbF)).want (j := i) (by omega)
      have hent : ((resJ i, decide (wantP W (keyJ i) = 0), 0) : EN) = entJ wd i := by
        unfold entJ
        rw [hwi]
        rcases hbw with hbw | hbw <;> simp [hbw]
      (repeat first | (apply wr_move; exact rfl; with_reducible (conv => enter [6, 3]; whnf)) | (apply wr_assign; exact rfl; with_reducible (conv => enter [6, 3]; whnf)) | apply wr_end | apply wc_region | apply wc_skip | (apply wr_cmp; (iterate 3 exact rfl); exact cmpF (by dsimp only [cmpN]; first | done | omega)) | (apply wr_add; (iterate 3 exact rfl); exact w_fit (by dsimp only [kIn]; first | done | omega)) | (apply wc_false; exact rfl))
      refine ⟨(i + 1, _, _), by dsimp only; omega, ⟨by trivial, by dsimp only; omega, hKJ.put hi26 g _ hent, (hWJ.skip hbF), h9, fun y hy => ?_, (hkw7').trans' hk9 (fun i hi e => by omega)⟩, rfl, rfl, rfl, rfl, rfl, ?_, rfl, trivial⟩
      focus
        dsimp only at hy
        rcases mem_putL hy with rfl | hy
        focus
          have := (hkw7').size
          show _ ≤ g
          omega
        exact hlow y hy
      show Value.int .i64 (cnt wd i : Int) = .int .i64 (cnt wd (i + 1) : Int)
      rw [hcs]; rfl
    · have hbF : bitW wd i = true := by unfold bitW; rw [← hbit, h01]; rfl
      have hbw : bitW wd i = true ∨ bitW wd i = false := .inl hbF
      rw [hbF] at hcs
      subst h01
      (repeat first | (apply wr_move; exact rfl; with_reducible (conv => enter [6, 3]; whnf)) | apply wr_end | apply wc_seq | apply wc_region | (apply wr_cmp; (iterate 3 exact rfl); exact cmpT (by dsimp only [cmpP]; first | done | omega)) | (apply wc_true; exact rfl))
      refine wr_loadAll (cs := [.int .i64 2, S [UInt8.ofNat (97 + i)]]) rfl rfl rfl hcw7 rfl ?_
      have hW0 : W (keyJ i) = 0 := by rw [hWJ.at' i (by omega), if_neg (by omega)]
      refine wr_call (vs := [.pointer (some ⟨sb, 0, none⟩), encK (keyJ i), .int .i64 1]) rfl (watch_ca h7 (keyJ i) (keyJ_short i) 1 (by decide)) rfl ?_
      rintro v w8 (⟨_, rfl, h8, hk8⟩ | ⟨hno, _⟩)
      rotate_left
      · exact absurd ⟨(keyJ_ok hi26).1, by rw [hW0]; decide, by rw [hW0]; decide⟩ hno
      obtain ⟨M7, hM7, _⟩ := h7.watch
      have hc8 := hk8.heap hcw7 (map_cells hM7 hcw7)
      have hkw8 : Keeps NoB w w8 := hkw7'.trans' hk8 (fun i hi e => by omega)
      (repeat first | (apply wr_move; exact rfl; with_reducible (conv => enter [6, 3]; whnf)) | (apply wr_assign; exact rfl; with_reducible (conv => enter [6, 3]; whnf)) | apply wr_end | apply wc_seq | apply wc_region | (apply wr_add; (iterate 3 exact rfl); exact w_fit (by dsimp only [kIn]; first | done | omega)))
      refine wr_loadAll (cs := [.int .i64 2, S [UInt8.ofNat (97 + i)]]) rfl rfl rfl hc8 rfl ?_
      refine wr_build (ps := [(0, encK (keyJ i)), (1, .int .u64 1)]) (cs := GRd (resJ i)) rfl rfl rfl rfl ?_
      refine wr_call (vs := [.pointer (some ⟨sb, 0, none⟩), RdV (resJ i), .int .u64 ((0 : Nat) : Int)]) rfl (put_ca h8 (resJ i) 0 (fun _ => .inl (by omega)) hKs (keyJ_short i) (Nat.zero_le _)) rfl ?_
      have hE : putE (n : Int) K (resJ i) = 0 := by
        unfold putE
        rw [if_pos (resJ_ok hi26), show getL K (keyR (resJ i)) = none from getL_none hnk]
        dsimp only
        rw [if_pos (by omega)]
      rw [hE]
      rintro v w9 ⟨rfl, ⟨hne, _⟩ | ⟨_, g, hg, h9, hk9⟩⟩
      focus
        exact absurd rfl hne
      rw [show keyR (resJ i) = keyJ i from rfl] at h9
      have hwi := ((hWJ.step (by omega) hbF)).want (j := i) (by omega)
      have hent : ((resJ i, decide (wantP (setW W (keyJ i) (W (keyJ i) + 1)) (keyJ i) = 0), 0) : EN) = entJ wd i := by
        unfold entJ
        rw [hwi]
        rcases hbw with hbw | hbw <;> simp [hbw]
      (repeat first | (apply wr_move; exact rfl; with_reducible (conv => enter [6, 3]; whnf)) | (apply wr_assign; exact rfl; with_reducible (conv => enter [6, 3]; whnf)) | apply wr_end | apply wc_region | apply wc_skip | (apply wr_cmp; (iterate 3 exact rfl); exact cmpF (by dsimp only [cmpN]; first | done | omega)) | (apply wr_add; (iterate 3 exact rfl); exact w_fit (by dsimp only [kIn]; first | done | omega)) | (apply wc_false; exact rfl))
      refine ⟨(i + 1, _, _), by dsimp only; omega, ⟨by trivial, by dsimp only; omega, hKJ.put hi26 g _ hent, (hWJ.step (by omega) hbF), h9, fun y hy => ?_, (hkw8).trans' hk9 (fun i hi e => by omega)⟩, rfl, rfl, rfl, rfl, rfl, ?_, rfl, trivial⟩
      focus
        dsimp only at hy
        rcases mem_putL hy with rfl | hy
        focus
          have := (hkw8).size
          show _ ≤ g
          omega
        exact hlow y hy
      show Value.int .i64 ((cnt wd i : Int) + 1) = .int .i64 (cnt wd (i + 1) : Int)
      rw [hcs]; rfl
  · have hi : n = i := by omega
    subst hi

    have hnz : keyZ ∉ K.map (·.1) := by rw [hKJ.keys]; exact zJ_not n
    (repeat first | (apply wr_move; exact rfl; with_reducible (conv => enter [6, 3]; whnf)) | apply wr_end | apply wc_seq | apply wc_region | (apply wr_cmp; (iterate 3 exact rfl); exact cmpF (by dsimp only [cmpN]; first | done | omega)) | (apply wc_false; exact rfl) | (apply wc_exit; try simp only [thenE, inBlockE, bodyQ, ↓reduceIte, Nat.reduceEqDiff]))
    refine wr_build (ps := [(0, .int .i64 1), (1, S [122])]) (cs := [.int .i64 1, S [122]]) rfl rfl rfl rfl ?_
    refine wr_build (ps := [(0, encK keyZ), (1, .int .u64 1)]) (cs := GRd resZ) rfl rfl rfl rfl ?_
    by_cases hall : cnt wd n = n
    · have hb := fun j hj => cnt_all hall (j := j) hj
      have hAW : AllWanted K W := fun x hx => by
        obtain ⟨j, hj, e, _⟩ := hKJ.of hx
        rw [e, hWJ.want (by omega), if_pos ⟨hj, hb j hj⟩]; decide
      refine wr_call (vs := [.pointer (some ⟨sb, 0, none⟩), RdV resZ, .int .u64 ((1 : Nat) : Int)]) rfl (put_ca h5 resZ 1 (fun _ => .inr hAW) hKs (by decide) (Nat.zero_le _)) rfl ?_
      have hE : putE (n : Int) K resZ = 4 := by
        unfold putE
        rw [if_pos resZ_ok, show getL K (keyR resZ) = none from getL_none hnz]
        dsimp only
        rw [if_neg (by omega)]
      rw [hE]
      rintro v w7 ⟨rfl, ⟨_, hk7⟩ | ⟨hne, _⟩⟩
      rotate_left
      · exact absurd hne (by decide)
      (repeat first | (apply wr_move; exact rfl; with_reducible (conv => enter [6, 3]; whnf)) | (apply wr_assign; exact rfl; with_reducible (conv => enter [6, 3]; whnf)) | apply wr_end | apply wc_seq | apply wc_region | (apply wr_cmp; (iterate 3 exact rfl); exact cmpF (by dsimp only [cmpN]; first | done | omega)))
      refine wr_boolNe (c := false) rfl rfl rfl rfl ?_
      have hF := (full_all hKJ hWJ (by omega) hb hlow)
      have hst := (h5.keep hk7)
      have hkz := (hkw5.trans hk7)
      (repeat first | (apply wr_move; exact rfl; with_reducible (conv => enter [6, 3]; whnf)))
      refine wr_call (vs := [.pointer (some ⟨sb, 0, none⟩)]) rfl (len_ca hst) rfl ?_
      rintro v wq ⟨rfl, rfl⟩
      rw [hF.len]
      (repeat first | (apply wr_move; exact rfl; with_reducible (conv => enter [6, 3]; whnf)) | apply wr_end | apply wc_seq | apply wc_region | apply wc_skip | (apply wr_cmp; (iterate 3 exact rfl); exact cmpF (by dsimp only [cmpN]; first | done | omega)) | (apply wr_pick (t := false); (iterate 2 exact rfl); with_reducible (conv => enter [6, 3]; whnf)) | (apply wc_false; exact rfl))
      refine wr_call (vs := [.pointer (some ⟨sb, 0, none⟩), .int .u64 ((1 : Nat) : Int)]) rfl (sweep_ca hst (by rw [hF.len]; omega) hF.fit.len hF.fit.key hF.fit.nd 1 (by decide) (fun x hx => Nat.le_trans (hF.fit.sin x hx) (by decide)) (by omega)) rfl ?_
      rintro v ws1 ⟨G1, a1, c1, rfl, hG1, hst1, hks1⟩
      have hf1 := hF.fit.swept (W := W) (G := G1)
      have hlow1 := upd_blk (W := W) (now := 1) (G := G1) hF.low
      change St ws1 sb kb wb n gr (sweptK W 1 G1 (K)) W at hst1
      have hkz1 : Keeps NoB w ws1 := hkz.trans' hks1 (fun q hq e => by
        rcases e with e | ⟨x, hx, e⟩
        · omega
        · have := hF.low x hx; omega)
      (repeat first | (apply wr_move; exact rfl; with_reducible (conv => enter [6, 3]; whnf)) | apply wr_end | apply wc_seq | apply wc_region | (apply wr_add; (iterate 3 exact rfl); exact w_fit (by dsimp only [kIn]; first | done | omega)))
      refine wr_call (vs := [.pointer (some ⟨sb, 0, none⟩), .int .u64 ((gr + 1 : Nat) : Int)]) rfl (sweep_ca hst1 (by have := hf1.le; omega) hf1.len hf1.key hf1.nd (gr + 1) (by omega) (fun x hx => Nat.le_trans (hf1.sin x hx) (by decide)) (by omega)) rfl ?_
      rintro v ws2 ⟨G2, a2, c2, rfl, hG2, hst2, hks2⟩
      change St ws2 sb kb wb n gr (sweptK W (gr + 1) G2 (sweptK W 1 G1 (K))) W at hst2
      have hkz2 : Keeps NoB w ws2 := hkz1.trans' hks2 (fun q hq e => by
        rcases e with e | ⟨x, hx, e⟩
        · omega
        · have := hlow1 x hx; omega)
      have hGl : G2.length ≤ n := by
        rw [hG2.length_eq]
        have h1 := List.length_filterMap_le (goneX W gr (gr + 1)) (sweptK W 1 G1 (K))
        exact Nat.le_trans h1 hf1.le
      have hleft : ∀ k, k ∈ (sweptK W (gr + 1) G2 (sweptK W 1 G1 (K))).map (·.1) ↔ ∃ j, j < n ∧ bitW wd j = true ∧ k = keyJ j := fun k => (left hF.fit hG1 hG2 k).trans (hF.who k)
      have hnd3 : ((sweptK W (gr + 1) G2 (sweptK W 1 G1 (K))).map (·.1)).Nodup := by
        have h1 : (((sweptK W 1 G1 (K)).map (updX W (gr + 1))).map (·.1)).Nodup := by rw [List.map_map]; exact hf1.nd
        exact h1.sublist (List.filter_sublist.map _)
      have hlen3 := left_len (W := W) hnd3 (by omega) hleft
      revert hst2 hleft hlen3
      generalize sweptK W (gr + 1) G2 (sweptK W 1 G1 (K)) = K3
      intro hst2 hleft hlen3
      (repeat first | (apply wr_assign; exact rfl; with_reducible (conv => enter [6, 3]; whnf)) | apply wr_end | apply wc_seq | apply wc_region | apply wc_block)
      refine wc_loopL (α := Nat) (fun i => [(0, .int .u16 (wd : Int)), (7, .bool true), (8, .int .i64 (n : Int)), (10, .pointer (some ⟨sb, 0, none⟩)), (11, .int .i64 (cnt wd n : Int)), (15, .slice a2 G2.length c2), (16, .int .i64 (i : Int))])
        (fun i ds w' => ds = [] ∧ i ≤ n ∧ St w' sb kb wb n gr K3 W ∧ Keeps NoB w w') (fun i => n - i) 0 ⟨rfl, Nat.zero_le _, hst2, hkz2⟩ ⟨rfl, rfl, rfl, rfl, rfl, rfl, rfl, trivial⟩ ?_
      rintro i ds f2 w20 ⟨rfl, hi, h20, hkw20⟩
      try dsimp only at h20 ⊢
      by_cases hin : i < n
      rotate_left
      focus
        (repeat first | (apply wr_move; exact rfl; with_reducible (conv => enter [6, 3]; whnf)) | apply wr_end | apply wc_seq | apply wc_region | (apply wr_cmp; (iterate 3 exact rfl); exact cmpF (by dsimp only [cmpN]; first | done | omega)) | (apply wc_false; exact rfl) | (apply wc_exit; try simp only [thenE, inBlockE, bodyQ, ↓reduceIte, Nat.reduceEqDiff]))
        refine wr_call (vs := [.pointer (some ⟨sb, 0, none⟩)]) rfl (len_ca h20) rfl ?_
        rintro v w21 ⟨rfl, rfl⟩
        rw [hlen3]
        (repeat first | (apply wr_move; exact rfl; with_reducible (conv => enter [6, 3]; whnf)) | (apply wr_assign; exact rfl; with_reducible (conv => enter [6, 3]; whnf)) | apply wr_end | (apply wr_len_slice; iterate 2 exact rfl) | (apply wr_cmp; (iterate 3 exact rfl); exact cmpT (by dsimp only [cmpP]; first | done | omega)) | (apply wr_pick (t := true); (iterate 2 exact rfl); with_reducible (conv => enter [6, 3]; whnf)) | (apply wc_ret; try simp only [thenE, inBlockE, bodyQ]))
        exact leave1 (v := .bool true) rfl rfl ⟨rfl, hkw20⟩
      obtain ⟨bit, hbit⟩ : ∃ b, b = wd / 2 ^ i % 2 := ⟨_, rfl⟩
      have hok : (getL K3 (keyJ i)).isSome = bitW wd i := by
        rw [isSome_iff]
        by_cases hb : bitW wd i = true
        · rw [hb]
          exact decide_eq_true ((hleft _).2 ⟨i, hin, hb, rfl⟩)
        · rw [Bool.not_eq_true] at hb
          rw [hb]
          refine decide_eq_false (fun h => ?_)
          obtain ⟨j, hj, hbj, e⟩ := (hleft _).1 h
          have := keyJ_inj (by omega) (by omega) e
          rw [this, hbj] at hb
          cases hb
      (repeat first | (apply wr_move; exact rfl; with_reducible (conv => enter [6, 3]; whnf)) | apply wr_end | apply wc_seq | apply wc_region | apply wc_skip | apply wc_block | (apply wr_cmp; (iterate 3 exact rfl); exact cmpT (by dsimp only [cmpP]; first | done | omega)) | (apply wr_add; (iterate 3 exact rfl); exact w_fit (by dsimp only [kIn]; first | done | omega)) | (apply wr_conv; (iterate 2 exact rfl); exact w_fit (by dsimp only [kIn]; first | done | omega)) | (apply wc_true; exact rfl))
      refine wr_buildSlice (vs := [.int .u8 (97 + (i : Int))]) rfl rfl (by intro v hv; simp at hv; subst hv; rfl) rfl (by decide) (by decide) (by decide) ?_
      refine wr_name ?_
      intro w21 hww21
      obtain ⟨bw21, hbw21⟩ : ∃ b, b = (w20).heap.size := ⟨_, rfl⟩
      have hkw21 : Keeps NoB w20 w21 := by rw [hww21]; exact (Keeps.refl NoB w20).alloc _
      have hcw21 : (w21).heap[bw21]? = some (.cells #[.int .u8 (97 + (i : Int))] 5 (0, 0)) := by rw [hww21, hbw21]; exact heap_alloc_same _ _
      rw [← hbw21]
      clear hww21
      refine wr_bytes2str (n := 1) (l := [UInt8.ofNat (97 + i)]) rfl rfl ⟨rfl, some ⟨bw21, 0, none⟩, 1, rfl, Nat.le_refl _, .inr ⟨bw21, 0, _, _, _, rfl, hcw21, fun j hj => ?_⟩⟩ ?_
      focus
        match j, hj with
        | 0, _ =>
          have : ((UInt8.ofNat (97 + i)).toNat : Int) = 97 + (i : Int) := by
            rw [UInt8.toNat_ofNat']
            omega
          simp [bytesV, this]
          omega
      refine wr_build (ps := [(0, .int .i64 2), (1, S [UInt8.ofNat (97 + i)])]) (cs := [.int .i64 2, S [UInt8.ofNat (97 + i)]]) rfl rfl rfl rfl ?_
      refine wr_call (vs := [.pointer (some ⟨sb, 0, none⟩), encK (keyJ i)]) rfl (get_ca (h20.keep hkw21) (keyJ i)) rfl ?_
      rintro v w22 ⟨rfl, hk22⟩
      rw [hok]
      obtain ⟨gg, hgg⟩ : ∃ o, o = gotR (getL K3 (keyJ i)) := ⟨_, rfl⟩
      rw [← hgg]
      (repeat first | (apply wr_move; exact rfl; with_reducible (conv => enter [6, 3]; whnf)) | (apply wr_alloc; exact rfl) | (apply wr_extract; (iterate 3 exact rfl); with_reducible (conv => enter [6, 3]; whnf)))
      refine wr_storeAll (cs := GRd gg) rfl rfl rfl (GRd_one _) (heap_alloc_same _ _) rfl rfl ?_
      refine wr_name ?_
      intro w23 hww23
      obtain ⟨bw23, hbw23⟩ : ∃ b, b = (w22).heap.size := ⟨_, rfl⟩
      have hkw23 : Keeps NoB w22 w23 := by rw [hww23]; exact ((Keeps.refl NoB w22).alloc _).put _ (fun h => by omega)
      have hcw23 : (w23).heap[bw23]? = some (.cells (GRd gg).toArray 30 (0, 0)) := by rw [hww23, hbw23]; exact World.putObj_heap_same (by simp)
      rw [← hbw23]
      clear hww23
      have h23 := ((h20.keep hkw21).keep hk22).keep hkw23
      have hkk : Keeps NoB w w23 := ((hkw20.trans hkw21).trans hk22).trans hkw23
      have h01 : bit = 0 ∨ bit = 1 := by omega
      rcases h01 with h01 | h01
      focus
        have hbw : bitW wd i = false := by unfold bitW; rw [← hbit, h01]; rfl
        rw [hbw]
        subst h01
        (repeat first | (apply wr_move; exact rfl; with_reducible (conv => enter [6, 3]; whnf)) | (apply wr_assign; exact rfl; with_reducible (conv => enter [6, 3]; whnf)) | apply wr_end | apply wc_seq | apply wc_region)
        refine wr_shrN i rfl rfl rfl (by show i ≤ 16; omega) ?_
        refine wr_remN (n := wd / 2 ^ i) (m := 2) rfl rfl rfl (by decide) ?_
        rw [← hbit]
        (repeat first | (apply wr_move; exact rfl; with_reducible (conv => enter [6, 3]; whnf)) | (apply wr_cmp; (iterate 3 exact rfl); exact cmpF (by dsimp only [cmpN]; first | done | omega)) | (apply wr_pick (t := false); (iterate 2 exact rfl); with_reducible (conv => enter [6, 3]; whnf)) | (apply wr_skip; exact rfl))
        refine wr_shrN i rfl rfl rfl (by show i ≤ 16; omega) ?_
        refine wr_remN (n := wd / 2 ^ i) (m := 2) rfl rfl rfl (by decide) ?_
        rw [← hbit]
        (repeat first | (apply wr_move; exact rfl; with_reducible (conv => enter [6, 3]; whnf)) | (apply wr_assign; exact rfl; with_reducible (conv => enter [6, 3]; whnf)) | apply wr_end | apply wc_region | apply wc_skip | (apply wr_cmp; (iterate 3 exact rfl); exact cmpT (by dsimp only [cmpP]; first | done | omega)) | (apply wr_pick (t := true); (iterate 2 exact rfl); with_reducible (conv => enter [6, 3]; whnf)) | (apply wr_pick (t := false); (iterate 2 exact rfl); with_reducible (conv => enter [6, 3]; whnf)) | (apply wr_add; (iterate 3 exact rfl); exact w_fit (by dsimp only [kIn]; first | done | omega)) | (apply wc_false; exact rfl))
        exact ⟨i + 1, by omega, ⟨by trivial, by omega, h23, hkk⟩, rfl, rfl, rfl, rfl, rfl, rfl, rfl, trivial⟩
      have hbw : bitW wd i = true := by unfold bitW; rw [← hbit, h01]; rfl
      rw [hbw]
      subst h01
      (repeat first | (apply wr_move; exact rfl; with_reducible (conv => enter [6, 3]; whnf)) | (apply wr_assign; exact rfl; with_reducible (conv => enter [6, 3]; whnf)) | apply wr_end | apply wc_seq | apply wc_region)
      refine wr_shrN i rfl rfl rfl (by show i ≤ 16; omega) ?_
      refine wr_remN (n := wd / 2 ^ i) (m := 2) rfl rfl rfl (by decide) ?_
      rw [← hbit]
      (repeat first | (apply wr_move; exact rfl; with_reducible (conv => enter [6, 3]; whnf)) | (apply wr_not; iterate 2 exact rfl) | (apply wr_cmp; (iterate 3 exact rfl); exact cmpT (by dsimp only [cmpP]; first | done | omega)) | (apply wr_pick (t := true); (iterate 2 exact rfl); with_reducible (conv => enter [6, 3]; whnf)))
      refine wr_shrN i rfl rfl rfl (by show i ≤ 16; omega) ?_
      refine wr_remN (n := wd / 2 ^ i) (m := 2) rfl rfl rfl (by decide) ?_
      rw [← hbit]
      (repeat first | (apply wr_move; exact rfl; with_reducible (conv => enter [6, 3]; whnf)) | (apply wr_assign; exact rfl; with_reducible (conv => enter [6, 3]; whnf)) | apply wr_end | apply wc_region | apply wc_skip | (apply wr_cmp; (iterate 3 exact rfl); exact cmpF (by dsimp only [cmpN]; first | done | omega)) | (apply wr_pick (t := false); (iterate 2 exact rfl); with_reducible (conv => enter [6, 3]; whnf)) | (apply wr_add; (iterate 3 exact rfl); exact w_fit (by dsimp only [kIn]; first | done | omega)) | (apply wc_false; exact rfl) | (apply wr_skip; exact rfl))
      exact ⟨i + 1, by omega, ⟨by trivial, by omega, h23, hkk⟩, rfl, rfl, rfl, rfl, rfl, rfl, rfl, trivial⟩
    · have hlt : cnt wd n < n := by omega
      obtain ⟨j, hj, hbj⟩ := cnt_some hlt
      have hne : K.filterMap (unw W 1) ≠ [] := fun e => by
        obtain ⟨x, hx, e1, e2⟩ := hKJ.has hj
        have hw : ¬ 0 < wantP W x.1 := by rw [e1, hWJ.want (by omega), if_neg (by simp [hbj])]; decide
        have : (x.2.2.1, x.2.2.2.1, if x.2.2.2.1 = true then x.2.2.2.2 else 1) ∈ K.filterMap (unw W 1) := List.mem_filterMap.2 ⟨x, hx, by unfold unw; rw [if_neg hw]⟩
        rw [e] at this
        cases this
      refine wr_call (vs := [.pointer (some ⟨sb, 0, none⟩), RdV resZ, .int .u64 ((1 : Nat) : Int)]) rfl (putG_ca h5 resZ 1 resZ_ok (getL_none hnz) (by omega) (by omega) hKs (fun x hx => by
        obtain ⟨q, _, e1, e2⟩ := hKJ.of hx
        rw [e1, e2]; rfl) hne (by decide) (Nat.zero_le _)) rfl ?_
      rintro v w7 ⟨rfl, x, hxK, e, hxe, _, g, hg, h7, hk7⟩
      have hux : ¬ 0 < wantP W x.1 := fun hw => by
        unfold unw at hxe
        rw [if_pos hw] at hxe
        cases hxe
      rw [show keyR resZ = keyZ from rfl] at h7
      have hg' : w.heap.size ≤ g := by have := hkw5.size; omega
      (repeat first | (apply wr_move; exact rfl; with_reducible (conv => enter [6, 3]; whnf)) | (apply wr_assign; exact rfl; with_reducible (conv => enter [6, 3]; whnf)) | apply wr_end | apply wc_seq | apply wc_region | (apply wr_cmp; (iterate 3 exact rfl); exact cmpT (by dsimp only [cmpP]; first | done | omega)))
      refine wr_boolNe (c := false) rfl rfl rfl rfl ?_
      have hF := (full_one (b := decide (wantP W keyZ = 0)) hKJ hWJ (by omega) hlow hg' hxK hux)
      have hst := h7
      have hkz := (hkw5.trans' hk7 (fun i hi e => by omega))
      (repeat first | (apply wr_move; exact rfl; with_reducible (conv => enter [6, 3]; whnf)))
      refine wr_call (vs := [.pointer (some ⟨sb, 0, none⟩)]) rfl (len_ca hst) rfl ?_
      rintro v wq ⟨rfl, rfl⟩
      rw [hF.len]
      (repeat first | (apply wr_move; exact rfl; with_reducible (conv => enter [6, 3]; whnf)) | apply wr_end | apply wc_seq | apply wc_region | apply wc_skip | (apply wr_cmp; (iterate 3 exact rfl); exact cmpF (by dsimp only [cmpN]; first | done | omega)) | (apply wr_pick (t := false); (iterate 2 exact rfl); with_reducible (conv => enter [6, 3]; whnf)) | (apply wc_false; exact rfl))
      refine wr_call (vs := [.pointer (some ⟨sb, 0, none⟩), .int .u64 ((1 : Nat) : Int)]) rfl (sweep_ca hst (by rw [hF.len]; omega) hF.fit.len hF.fit.key hF.fit.nd 1 (by decide) (fun x hx => Nat.le_trans (hF.fit.sin x hx) (by decide)) (by omega)) rfl ?_
      rintro v ws1 ⟨G1, a1, c1, rfl, hG1, hst1, hks1⟩
      have hf1 := hF.fit.swept (W := W) (G := G1)
      have hlow1 := upd_blk (W := W) (now := 1) (G := G1) hF.low
      change St ws1 sb kb wb n gr (sweptK W 1 G1 (putL (delL K x.1) keyZ (g, (resZ, decide (wantP W keyZ = 0), 1)))) W at hst1
      have hkz1 : Keeps NoB w ws1 := hkz.trans' hks1 (fun q hq e => by
        rcases e with e | ⟨x, hx, e⟩
        · omega
        · have := hF.low x hx; omega)
      (repeat first | (apply wr_move; exact rfl; with_reducible (conv => enter [6, 3]; whnf)) | apply wr_end | apply wc_seq | apply wc_region | (apply wr_add; (iterate 3 exact rfl); exact w_fit (by dsimp only [kIn]; first | done | omega)))
      refine wr_call (vs := [.pointer (some ⟨sb, 0, none⟩), .int .u64 ((gr + 1 : Nat) : Int)]) rfl (sweep_ca hst1 (by have := hf1.le; omega) hf1.len hf1.key hf1.nd (gr + 1) (by omega) (fun x hx => Nat.le_trans (hf1.sin x hx) (by decide)) (by omega)) rfl ?_
      rintro v ws2 ⟨G2, a2, c2, rfl, hG2, hst2, hks2⟩
      change St ws2 sb kb wb n gr (sweptK W (gr + 1) G2 (sweptK W 1 G1 (putL (delL K x.1) keyZ (g, (resZ, decide (wantP W keyZ = 0), 1))))) W at hst2
      have hkz2 : Keeps NoB w ws2 := hkz1.trans' hks2 (fun q hq e => by
        rcases e with e | ⟨x, hx, e⟩
        · omega
        · have := hlow1 x hx; omega)
      have hGl : G2.length ≤ n := by
        rw [hG2.length_eq]
        have h1 := List.length_filterMap_le (goneX W gr (gr + 1)) (sweptK W 1 G1 (putL (delL K x.1) keyZ (g, (resZ, decide (wantP W keyZ = 0), 1))))
        exact Nat.le_trans h1 hf1.le
      have hleft : ∀ k, k ∈ (sweptK W (gr + 1) G2 (sweptK W 1 G1 (putL (delL K x.1) keyZ (g, (resZ, decide (wantP W keyZ = 0), 1))))).map (·.1) ↔ ∃ j, j < n ∧ bitW wd j = true ∧ k = keyJ j := fun k => (left hF.fit hG1 hG2 k).trans (hF.who k)
      have hnd3 : ((sweptK W (gr + 1) G2 (sweptK W 1 G1 (putL (delL K x.1) keyZ (g, (resZ, decide (wantP W keyZ = 0), 1))))).map (·.1)).Nodup := by
        have h1 : (((sweptK W 1 G1 (putL (delL K x.1) keyZ (g, (resZ, decide (wantP W keyZ = 0), 1)))).map (updX W (gr + 1))).map (·.1)).Nodup := by rw [List.map_map]; exact hf1.nd
        exact h1.sublist (List.filter_sublist.map _)
      have hlen3 := left_len (W := W) hnd3 (by omega) hleft
      revert hst2 hleft hlen3
      generalize sweptK W (gr + 1) G2 (sweptK W 1 G1 (putL (delL K x.1) keyZ (g, (resZ, decide (wantP W keyZ = 0), 1)))) = K3
      intro hst2 hleft hlen3
      (repeat first | (apply wr_assign; exact rfl; with_reducible (conv => enter [6, 3]; whnf)) | apply wr_end | apply wc_seq | apply wc_region | apply wc_block)
      refine wc_loopL (α := Nat) (fun i => [(0, .int .u16 (wd : Int)), (7, .bool true), (8, .int .i64 (n : Int)), (10, .pointer (some ⟨sb, 0, none⟩)), (11, .int .i64 (cnt wd n : Int)), (15, .slice a2 G2.length c2), (16, .int .i64 (i : Int))])
        (fun i ds w' => ds = [] ∧ i ≤ n ∧ St w' sb kb wb n gr K3 W ∧ Keeps NoB w w') (fun i => n - i) 0 ⟨rfl, Nat.zero_le _, hst2, hkz2⟩ ⟨rfl, rfl, rfl, rfl, rfl, rfl, rfl, trivial⟩ ?_
      rintro i ds f2 w20 ⟨rfl, hi, h20, hkw20⟩
      try dsimp only at h20 ⊢
      by_cases hin : i < n
      rotate_left
      focus
        (repeat first | (apply wr_move; exact rfl; with_reducible (conv => enter [6, 3]; whnf)) | apply wr_end | apply wc_seq | apply wc_region | (apply wr_cmp; (iterate 3 exact rfl); exact cmpF (by dsimp only [cmpN]; first | done | omega)) | (apply wc_false; exact rfl) | (apply wc_exit; try simp only [thenE, inBlockE, bodyQ, ↓reduceIte, Nat.reduceEqDiff]))
        refine wr_call (vs := [.pointer (some ⟨sb, 0, none⟩)]) rfl (len_ca h20) rfl ?_
        rintro v w21 ⟨rfl, rfl⟩
        rw [hlen3]
        (repeat first | (apply wr_move; exact rfl; with_reducible (conv => enter [6, 3]; whnf)) | (apply wr_assign; exact rfl; with_reducible (conv => enter [6, 3]; whnf)) | apply wr_end | (apply wr_len_slice; iterate 2 exact rfl) | (apply wr_cmp; (iterate 3 exact rfl); exact cmpT (by dsimp only [cmpP]; first | done | omega)) | (apply wr_pick (t := true); (iterate 2 exact rfl); with_reducible (conv => enter [6, 3]; whnf)) | (apply wc_ret; try simp only [thenE, inBlockE, bodyQ]))
        exact leave1 (v := .bool true) rfl rfl ⟨rfl, hkw20⟩
      obtain ⟨bit, hbit⟩ : ∃ b, b = wd / 2 ^ i % 2 := ⟨_, rfl⟩
      have hok : (getL K3 (keyJ i)).isSome = bitW wd i := by
        rw [isSome_iff]
        by_cases hb : bitW wd i = true
        · rw [hb]
          exact decide_eq_true ((hleft _).2 ⟨i, hin, hb, rfl⟩)
        · rw [Bool.not_eq_true] at hb
          rw [hb]
          refine decide_eq_false (fun h => ?_)
          obtain ⟨j, hj, hbj, e⟩ := (hleft _).1 h
          have := keyJ_inj (by omega) (by omega) e
          rw [this, hbj] at hb
          cases hb
      (repeat first | (apply wr_move; exact rfl; with_reducible (conv => enter [6, 3]; whnf)) | apply wr_end | apply wc_seq | apply wc_region | apply wc_skip | apply wc_block | (apply wr_cmp; (iterate 3 exact rfl); exact cmpT (by dsimp only [cmpP]; first | done | omega)) | (apply wr_add; (iterate 3 exact rfl); exact w_fit (by dsimp only [kIn]; first | done | omega)) | (apply wr_conv; (iterate 2 exact rfl); exact w_fit (by dsimp only [kIn]; first | done | omega)) | (apply wc_true; exact rfl))
      refine wr_buildSlice (vs := [.int .u8 (97 + (i : Int))]) rfl rfl (by intro v hv; simp at hv; subst hv; rfl) rfl (by decide) (by decide) (by decide) ?_
      refine wr_name ?_
      intro w21 hww21
      obtain ⟨bw21, hbw21⟩ : ∃ b, b = (w20).heap.size := ⟨_, rfl⟩
      have hkw21 : Keeps NoB w20 w21 := by rw [hww21]; exact (Keeps.refl NoB w20).alloc _
      have hcw21 : (w21).heap[bw21]? = some (.cells #[.int .u8 (97 + (i : Int))] 5 (0, 0)) := by rw [hww21, hbw21]; exact heap_alloc_same _ _
      rw [← hbw21]
      clear hww21
      refine wr_bytes2str (n := 1) (l := [UInt8.ofNat (97 + i)]) rfl rfl ⟨rfl, some ⟨bw21, 0, none⟩, 1, rfl, Nat.le_refl _, .inr ⟨bw21, 0, _, _, _, rfl, hcw21, fun j hj => ?_⟩⟩ ?_
      focus
        match j, hj with
        | 0, _ =>
          have : ((UInt8.ofNat (97 + i)).toNat : Int) = 97 + (i : Int) := by
            rw [UInt8.toNat_ofNat']
            omega
          simp [bytesV, this]
          omega
      refine wr_build (ps := [(0, .int .i64 2), (1, S [UInt8.ofNat (97 + i)])]) (cs := [.int .i64 2, S [UInt8.ofNat (97 + i)]]) rfl rfl rfl rfl ?_
      refine wr_call (vs := [.pointer (some ⟨sb, 0, none⟩), encK (keyJ i)]) rfl (get_ca (h20.keep hkw21) (keyJ i)) rfl ?_
      rintro v w22 ⟨rfl, hk22⟩
      rw [hok]
      obtain ⟨gg, hgg⟩ : ∃ o, o = gotR (getL K3 (keyJ i)) := ⟨_, rfl⟩
      rw [← hgg]
      (repeat first | (apply wr_move; exact rfl; with_reducible (conv => enter [6, 3]; whnf)) | (apply wr_alloc; exact rfl) | (apply wr_extract; (iterate 3 exact rfl); with_reducible (conv => enter [6, 3]; whnf)))
      refine wr_storeAll (cs := GRd gg) rfl rfl rfl (GRd_one _) (heap_alloc_same _ _) rfl rfl ?_
      refine wr_name ?_
      intro w23 hww23
      obtain ⟨bw23, hbw23⟩ : ∃ b, b = (w22).heap.size := ⟨_, rfl⟩
      have hkw23 : Keeps NoB w22 w23 := by rw [hww23]; exact ((Keeps.refl NoB w22).alloc _).put _ (fun h => by omega)
      have hcw23 : (w23).heap[bw23]? = some (.cells (GRd gg).toArray 30 (0, 0)) := by rw [hww23, hbw23]; exact World.putObj_heap_same (by simp)
      rw [← hbw23]
      clear hww23
      have h23 := ((h20.keep hkw21).keep hk22).keep hkw23
      have hkk : Keeps NoB w w23 := ((hkw20.trans hkw21).trans hk22).trans hkw23
      have h01 : bit = 0 ∨ bit = 1 := by omega
      rcases h01 with h01 | h01
      focus
        have hbw : bitW wd i = false := by unfold bitW; rw [← hbit, h01]; rfl
        rw [hbw]
        subst h01
        (repeat first | (apply wr_move; exact rfl; with_reducible (conv => enter [6, 3]; whnf)) | (apply wr_assign; exact rfl; with_reducible (conv => enter [6, 3]; whnf)) | apply wr_end | apply wc_seq | apply wc_region)
        refine wr_shrN i rfl rfl rfl (by show i ≤ 16; omega) ?_
        refine wr_remN (n := wd / 2 ^ i) (m := 2) rfl rfl rfl (by decide) ?_
        rw [← hbit]
        (repeat first | (apply wr_move; exact rfl; with_reducible (conv => enter [6, 3]; whnf)) | (apply wr_cmp; (iterate 3 exact rfl); exact cmpF (by dsimp only [cmpN]; first | done | omega)) | (apply wr_pick (t := false); (iterate 2 exact rfl); with_reducible (conv => enter [6, 3]; whnf)) | (apply wr_skip; exact rfl))
        refine wr_shrN i rfl rfl rfl (by show i ≤ 16; omega) ?_
        refine wr_remN (n := wd / 2 ^ i) (m := 2) rfl rfl rfl (by decide) ?_
        rw [← hbit]
        (repeat first | (apply wr_move; exact rfl; with_reducible (conv => enter [6, 3]; whnf)) | (apply wr_assign; exact rfl; with_reducible (conv => enter [6, 3]; whnf)) | apply wr_end | apply wc_region | apply wc_skip | (apply wr_cmp; (iterate 3 exact rfl); exact cmpT (by dsimp only [cmpP]; first | done | omega)) | (apply wr_pick (t := true); (iterate 2 exact rfl); with_reducible (conv => enter [6, 3]; whnf)) | (apply wr_pick (t := false); (iterate 2 exact rfl); with_reducible (conv => enter [6, 3]; whnf)) | (apply wr_add; (iterate 3 exact rfl); exact w_fit (by dsimp only [kIn]; first | done | omega)) | (apply wc_false; exact rfl))
        exact ⟨i + 1, by omega, ⟨by trivial, by omega, h23, hkk⟩, rfl, rfl, rfl, rfl, rfl, rfl, rfl, trivial⟩
      have hbw : bitW wd i = true := by unfold bitW; rw [← hbit, h01]; rfl
      rw [hbw]
      subst h01
      (repeat first | (apply wr_move; exact rfl; with_reducible (conv => enter [6, 3]; whnf)) | (apply wr_assign; exact rfl; with_reducible (conv => enter [6, 3]; whnf)) | apply wr_end | apply wc_seq | apply wc_region)
      refine wr_shrN i rfl rfl rfl (by show i ≤ 16; omega) ?_
      refine wr_remN (n := wd / 2 ^ i) (m := 2) rfl rfl rfl (by decide) ?_
      rw [← hbit]
      (repeat first | (apply wr_move; exact rfl; with_reducible (conv => enter [6, 3]; whnf)) | (apply wr_not; iterate 2 exact rfl) | (apply wr_cmp; (iterate 3 exact rfl); exact cmpT (by dsimp only [cmpP]; first | done | omega)) | (apply wr_pick (t := true); (iterate 2 exact rfl); with_reducible (conv => enter [6, 3]; whnf)))
      refine wr_shrN i rfl rfl rfl (by show i ≤ 16; omega) ?_
      refine wr_remN (n := wd / 2 ^ i) (m := 2) rfl rfl rfl (by decide) ?_
      rw [← hbit]
      (repeat first | (apply wr_move; exact rfl; with_reducible (conv => enter [6, 3]; whnf)) | (apply wr_assign; exact rfl; with_reducible (conv => enter [6, 3]; whnf)) | apply wr_end | apply wc_region | apply wc_skip | (apply wr_cmp; (iterate 3 exact rfl); exact cmpF (by dsimp only [cmpN]; first | done | omega)) | (apply wr_pick (t := false); (iterate 2 exact rfl); with_reducible (conv => enter [6, 3]; whnf)) | (apply wr_add; (iterate 3 exact rfl); exact w_fit (by dsimp only [kIn]; first | done | omega)) | (apply wc_false; exact rfl) | (apply wr_skip; exact rfl))
      exact ⟨i + 1, by omega, ⟨by trivial, by omega, h23, hkk⟩, rfl, rfl, rfl, rfl, rfl, rfl, rfl, trivial⟩
end Go.Proofs.YtafnbbehmbmchaaDoor
