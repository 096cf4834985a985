/- ClientNonces. -/
import Derived.Test.YtahlhldkcekbfaaGreatDoorGm
import Derived.Test.YtahlhldkcekbfaaGreatDoorGl
namespace Go.Proofs.YtahlhldkcekbfaaGreatDoor
open Go Go.V Go.RowKit
set_option linter.unusedVariables false
set_option linter.unusedSimpArgs false

abbrev stW : PS := (true, [])
theorem stW_fine : Fine stW := nil_fine true
theorem stO : ofP [[42]] = stW := by
  have := ofP_listP stW_fine
  exact this
theorem max_int (a b : Nat) : (if (b : Int) > (a : Int) then (b : Int) else (a : Int)) = ((max a b : Nat) : Int) := by
  rcases Nat.le_total a b with h | h
  · rw [Nat.max_eq_right h]
    split <;> omega
  · rw [Nat.max_eq_left h, if_neg (by omega)]
set_option maxRecDepth 100000 in
set_option maxHeartbeats 8000000 in
theorem nonces_law (delta : Bool) (bl : List Nat) (sl : Value) {w : World} (hE : ErrT w) (hsl : SlR w 1 sl bl.length (IB bl)) (hb8 : ∀ x ∈ bl, x < 256) : Ca Tryz.prog 3 #[.bool delta, sl] w fun v w' => v = .bool true ∧ Keeps NoB w w' := by
  obtain ⟨a, c, rfl, hcap, hat⟩ := hsl.shape
  refine ca_of_body (args := [.bool delta, .slice a bl.length c]) Tryz.func3 rfl (by kernel_rfl) ?_
  (repeat first | (apply wr_assign; exact rfl; with_reducible (conv => enter [6, 3]; whnf)) | apply wr_end | apply wc_seq | apply wc_region)
  refine wr_call (vs := []) rfl (examples_ca hE) rfl ?_
  rintro v w1 ⟨rfl, hk1⟩
  have hz1 := hk1.size
  have hE1 := hE.keep hk1
  (repeat first | (apply wr_move; exact rfl; with_reducible (conv => enter [6, 3]; whnf)) | (apply wr_assign; exact rfl; with_reducible (conv => enter [6, 3]; whnf)) | apply wr_end | apply wc_seq | apply wc_region | apply wc_skip | (apply wr_not; iterate 2 exact rfl) | (apply wc_false; exact rfl))
  refine wr_call (vs := [.bool delta]) rfl (newCl_ca delta w1) rfl ?_
  rintro v w2 ⟨rfl, hk2⟩
  have hk02 := hk1.trans hk2
  (repeat first | (apply wr_alloc; exact rfl))
  refine wr_storeAll (cs := GCl (newC delta)) rfl rfl rfl (GCl_one (newC_at w2 delta)) (heap_alloc_same _ _) rfl rfl ?_
  refine wr_name ?_
  intro w3 hww3
  obtain ⟨bw3, hbw3⟩ : ∃ b, b = (w2).heap.size := ⟨_, rfl⟩
  have hkw3 : Keeps NoB w2 w3 := by rw [hww3]; exact ((Keeps.refl NoB w2).alloc _).put _ (fun h => by omega)
  have hcw3 : (w3).heap[bw3]? = some (.cells (GCl (newC delta)).toArray 32 (0, 0)) := by rw [hww3, hbw3]; exact World.putObj_heap_same (by simp)
  rw [← hbw3]
  clear hww3
  have hk03 := hk02.trans hkw3
  have ht3 : takeE (rightB 3 delta false 1) (newC delta) 3 delta 1 = some 7 := by
    unfold takeE
    rw [topicOf_new]
    cases delta <;> rfl
  (repeat first | apply wr_end | apply wc_seq | apply wc_region)
  refine wr_loadAll (cs := GCl (newC delta)) rfl rfl rfl hcw3 rfl ?_
  (repeat first | (apply wr_move; exact rfl; with_reducible (conv => enter [6, 3]; whnf)))
  refine wr_build (ps := [(0, .int .i64 3), (1, .bool delta), (3, .int .u64 1)]) (cs := GRp 3 delta false 1 0 nilV nilV) rfl rfl rfl rfl ?_
  refine wr_call (vs := [CliV (newC delta), .agg (GRp 3 delta false 1 0 nilV nilV).toArray]) rfl (take_no (newC_at w3 delta) (hE.keep hk03) (by decide) ht3) rfl ?_
  rintro v w4 ⟨rfl, hk4⟩
  (repeat first | (apply wr_move; exact rfl; with_reducible (conv => enter [6, 3]; whnf)) | (apply wr_alloc; exact rfl) | (apply wr_extract; (iterate 3 exact rfl); with_reducible (conv => enter [6, 3]; whnf)))
  refine wr_storeAll (cs := GCl (newC delta)) rfl rfl rfl (GCl_one (newC_at w4 delta)) (heap_alloc_same _ _) rfl rfl ?_
  refine wr_name ?_
  intro w5 hww5
  obtain ⟨bw5, hbw5⟩ : ∃ b, b = (w4).heap.size := ⟨_, rfl⟩
  have hkw5 : Keeps NoB w4 w5 := by rw [hww5]; exact ((Keeps.refl NoB w4).alloc _).put _ (fun h => by omega)
  have hcw5 : (w5).heap[bw5]? = some (.cells (GCl (newC delta)).toArray 32 (0, 0)) := by rw [hww5, hbw5]; exact World.putObj_heap_same (by simp)
  rw [← hbw5]
  clear hww5
  have hk05 := (hk03.trans hk4).trans hkw5
  have hc5 := (hk4.trans hkw5).heap hcw3 (fun h => h)
  have hz2 := hk02.size
  obtain ⟨n1, hn1⟩ : ∃ n1, n1 = w5.heap.size := ⟨_, rfl⟩
  have hbn : bw3 < n1 := by rw [hn1]; exact lt_of_heap hc5
  have hc5d : w5.drew.heap[bw3]? = _ := hc5
  have hEd : ErrT w5.drew := hE.keep hk05.drew
  have heq : askE (newC delta) 3 stW ([] : List HV).length = none := by cases delta <;> decide
  (repeat first | (apply wr_assign; exact rfl; with_reducible (conv => enter [6, 3]; whnf)) | apply wr_end | apply wc_seq)
  refine V.F.wc_drawE (l := _) (V.F.E3 n1 bw3 9 10 TRq 1000 TCl) (V.F.E30 bw3 9) 12 _ (by kernel_rfl) (by kernel_rfl) rfl (by kernel_rfl) (by kernel_rfl) (by decide) (V.F.e3_E0 (by rw [hn1]; exact Nat.le_refl _)) ?_
  apply V.F.chP_pure
  focus
    intro xx w' hk hF
    refine wr_loadAll (cs := GCl (newC delta)) rfl rfl rfl ((V.F.e3_mon (by kernel_rfl) hk).heap hc5d (fun h => h)) rfl ?_
    apply wr_nil
    exact ⟨rfl, V.F.Kp.of (Keeps.refl _ _)⟩
  focus (intro xx yy h; rfl)
  focus kernel_rfl
  refine V.F.chP_fact (fun y => .slice (some ⟨blkOf y, 0, none⟩) 1 1) (fun _ y w' => n1 ≤ blkOf y ∧ w'.heap[blkOf y]? = some (.cells (SL [[42]]).toArray 9 (0, 0))) (fun _ _ _ _ _ a => a) (by kernel_rfl) (fun x y w w' h k => ⟨h.1, V.F.blk_E3 h.2 (Nat.ne_of_lt (Nat.lt_of_lt_of_le hbn h.1)) (by decide) (by decide) k⟩) ?_ ?_
  focus
    intro xx w' hk hF
    have hsz := (V.F.e3_mon' hk).size
    refine wr_buildSlice (vs := [S [42]]) rfl rfl (by intro v hv; simp at hv; subst hv; rfl) rfl (by decide) (by decide) (by decide) ?_
    apply wr_nil
    exact ⟨.pointer (some ⟨w'.heap.size, 0, none⟩), rfl, ⟨hn1 ▸ hsz, heap_alloc_same _ _⟩, V.F.Kp.of ((Keeps.refl _ _).alloc _)⟩
  refine V.F.chP_fact (fun y => y) (fun _ y w' => SetO w' n1 (ofP [[42]]) y) (fun _ _ _ _ _ a => a) (by kernel_rfl) (fun x y w w' h k => setO_E3 h hbn (by decide) (by decide) k) ?_ ?_
  focus
    intro xx w' hk hF
    have hsz := (V.F.e3_mon' hk).size
    have h1 : n1 ≤ blkOf (xx 1) ∧ w'.heap[blkOf (xx 1)]? = some (.cells (SL [[42]]).toArray 9 (0, 0)) := hF 1 (by kernel_rfl)
    refine wr_call (vs := [.slice (some ⟨blkOf (xx 1), 0, none⟩) 1 1]) rfl (ofO_ca [[42]] _ w' (slR_blk h1.2 rfl) (by decide) (by decide)) rfl ?_
    rintro v w'' ⟨hR, hkc⟩
    apply wr_nil
    exact ⟨v, rfl, hR.down (hn1 ▸ hsz), V.F.Kp.of hkc⟩
  refine V.F.chP_fact (fun y => y) (fun _ y w' => AskOk w' n1 (newC delta) 3 stW [] y) (fun _ _ _ _ _ a => a) (by kernel_rfl) (fun x y w w' h k => askOk_E3 h hbn (by decide) (by decide) (by decide) (by decide) k) ?_ ?_
  focus
    intro xx w' hk hF
    have hsz := (V.F.e3_mon' hk).size
    have hk0 := V.F.e3_mon (by kernel_rfl) hk
    have hO : SetO w' n1 (ofP [[42]]) (xx 2) := hF 2 (by kernel_rfl)
    rw [stO] at hO
    refine wr_call (vs := [CliV (newC delta), .int .i64 3, xx 2, nilV]) rfl (ask_cb (newC_at w' delta) (hEd.keep hk0) 3 (W := stW) hO.toR stW_fine (by decide) (hv := []) (by decide) (slR_nilH _)) rfl ?_
    rintro v w'' ⟨hR, hkc⟩
    apply wr_nil
    refine ⟨v, rfl, ?_, V.F.Kp.of hkc⟩
    rcases hR with ⟨e, he, _⟩ | ⟨_, hR⟩
    · rw [heq] at he; cases he
    · exact hR.down (hn1 ▸ hsz)
  apply V.F.chP_pure
  focus
    intro xx w' hk hF
    apply wr_move; exact rfl; with_reducible (conv => enter [6, 3]; whnf)
    apply wr_nil
    exact ⟨rfl, V.F.Kp.of (Keeps.refl _ _)⟩
  focus (intro xx yy h; exact h 3 (by kernel_rfl))
  focus kernel_rfl
  refine V.F.chP_pure (v := fun x => tupI (x 3) 0) ?_ (fun x y h => congrArg (fun u => tupI u 0) (h 3 (by kernel_rfl))) (by kernel_rfl) ?_
  focus
    intro xx w' hk hF
    have hA : AskOk w' n1 (newC delta) 3 stW [] (xx 3) := hF 3 (by kernel_rfl)
    obtain ⟨nv, sub, uns, hav, hx, _⟩ := hA
    refine wr_extract (v := tupI (xx 3) 0) rfl hx (by rw [hx]; rfl) ?_
    apply wr_nil
    exact ⟨rfl, V.F.Kp.of (Keeps.refl _ _)⟩
  refine V.F.chP_pure (v := fun x => tupI (x 3) 1) ?_ (fun x y h => congrArg (fun u => tupI u 1) (h 3 (by kernel_rfl))) (by kernel_rfl) ?_
  focus
    intro xx w' hk hF
    have hA : AskOk w' n1 (newC delta) 3 stW [] (xx 3) := hF 3 (by kernel_rfl)
    obtain ⟨nv, sub, uns, hav, hx, _⟩ := hA
    refine wr_extract (v := tupI (xx 3) 1) rfl hx (by rw [hx]; rfl) ?_
    apply wr_nil
    exact ⟨rfl, V.F.Kp.of (Keeps.refl _ _)⟩
  refine V.F.chP_pure (v := fun x => tupI (x 3) 2) ?_ (fun x y h => congrArg (fun u => tupI u 2) (h 3 (by kernel_rfl))) (by kernel_rfl) ?_
  focus
    intro xx w' hk hF
    have hA : AskOk w' n1 (newC delta) 3 stW [] (xx 3) := hF 3 (by kernel_rfl)
    obtain ⟨nv, sub, uns, hav, hx, _⟩ := hA
    refine wr_extract (v := tupI (xx 3) 2) rfl hx (by rw [hx]; rfl) ?_
    apply wr_nil
    exact ⟨rfl, V.F.Kp.of (Keeps.refl _ _)⟩
  refine V.F.chP_fact (fun y => .pointer (some ⟨blkOf y, 0, none⟩)) (fun _ y w' => V.F.Fr w' n1 42 7 (blkOf y)) (fun _ _ _ _ _ a => a) (by kernel_rfl) (fun x y w w' h k => h.keep k) ?_ ?_
  focus
    intro xx w' hk hF
    have hsz := (V.F.e3_mon' hk).size
    apply wr_alloc
    focus exact rfl
    apply wr_nil
    exact ⟨.pointer (some ⟨w'.heap.size, 0, none⟩), rfl, ⟨hn1 ▸ hsz, _, heap_alloc_same _ _, rfl⟩, V.F.Kp.of ((Keeps.refl _ _).alloc _)⟩
  refine V.F.chP_fact (fun _ => undef) (fun x _ w' => w'.heap[bw3]? = some (.cells (cellsV (tupI (x 3) 0)) 32 (0, 0))) (fun x x' y w h a => by rw [← h 3 (by kernel_rfl)]; exact a) (by kernel_rfl) (fun x y w w' h k => V.F.blk1_E3 h hbn k) ?_ ?_
  focus
    intro xx w' hk hF
    have hA : AskOk w' n1 (newC delta) 3 stW [] (xx 3) := hF 3 (by kernel_rfl)
    have hk0 := V.F.e3_mon (by kernel_rfl) hk
    obtain ⟨A, R, hx, hA1, hR1, hA2, hR2⟩ := hA.cells (newC_at w' delta) (by decide)
    have hg := hk0.heap hc5d (fun h => h)
    refine wr_storeAll (cs := A) rfl rfl (by show tupI (xx 3) 0 = _; rw [hx]; rfl) hA2 hg hA1 (by rfl) ?_
    apply wr_nil
    exact ⟨undef, rfl, by rw [hx]; exact World.putObj_heap_same (lt_of_heap hg), V.F.Kp.put hg (by rw [List.size_toArray, hA1]; exact Eq.symm (by rfl)) (.inl ⟨rfl, rfl, rfl⟩)⟩
  refine V.F.chP_fact (fun _ => undef) (fun x _ w' => n1 ≤ blkOf (x 8) ∧ w'.heap[blkOf (x 8)]? = some (.cells (cellsV (tupI (x 3) 1)) 42 (0, 0))) (fun x x' y w h a => by rw [← h 3 (by kernel_rfl), ← h 8 (by kernel_rfl)]; exact a) (by kernel_rfl) (fun x y w w' h k => ⟨h.1, V.F.blk2_E3 h.2 (Nat.ne_of_lt (Nat.lt_of_lt_of_le hbn h.1)) (by decide) k⟩) ?_ ?_
  focus
    intro xx w' hk hF
    have hA : AskOk w' n1 (newC delta) 3 stW [] (xx 3) := hF 3 (by kernel_rfl)
    obtain ⟨A, R, hx, hA1, hR1, hA2, hR2⟩ := hA.cells (newC_at w' delta) (by decide)
    obtain ⟨hfr, cs, hg, hcs⟩ : V.F.Fr w' n1 42 7 (blkOf (xx 8)) := hF 8 (by kernel_rfl)
    refine wr_storeAll (cs := R) rfl rfl (by show tupI (xx 3) 1 = _; rw [hx]; rfl) hR2 hg hR1 hcs ?_
    apply wr_nil
    exact ⟨undef, rfl, ⟨hfr, by rw [hx]; exact World.putObj_heap_same (lt_of_heap hg)⟩, V.F.Kp.put hg (by rw [List.size_toArray, hR1, hcs]) (.inr (.inl ⟨rfl, hfr, _, _, hg⟩))⟩
  refine V.F.chP_pure (v := fun x => tupI (x 3) 2) ?_ (fun x y h => congrArg (fun u => tupI u 2) (h 3 (by kernel_rfl))) (by kernel_rfl) ?_
  focus
    intro xx w' hk hF
    apply wr_assign; exact rfl
    apply wr_nil
    exact ⟨rfl, V.F.Kp.of (Keeps.refl _ _)⟩
  refine V.F.chP_nil ?_
  intro xx w6 hk6' hF
  have hk6 := V.F.e3_all hk6'
  obtain ⟨nv, sub, uns, hav, hx6, hnv, _⟩ : AskOk w6 n1 (newC delta) 3 stW [] (xx 3) := hF 3 (by decide)
  have hc6 : w6.heap[bw3]? = some (.cells (cellsV (tupI (xx 3) 0)) 32 (0, 0)) := hF 9 (by decide)
  clear hF
  rw [hx6] at hc6
  replace hc6 : w6.heap[bw3]? = some (.cells (GCl (askC (newC delta) 3 stW nv)).toArray 32 (0, 0)) := hc6
  dsimp only [Nat.reduceAdd]
  rw [hx6]
  obtain ⟨c1, hc1⟩ : ∃ c, c = askC (newC delta) 3 stW nv := ⟨_, rfl⟩
  rw [← hc1] at hc6
  have hO6 : CliO w6 n1 c1 := by rw [hc1]; exact askC_O (newC_O w6 n1 delta) 3 hnv (by decide) stW_fine
  have ht1 : topicOf c1 3 = ((stW, nv), true, 0) := by rw [hc1, topicOf_ask (by simp [newC]) (by decide), topicOf_new]; rfl
  have hd1 : c1.1 = delta := by rw [hc1]; rfl
  clear hc1 hx6 hnv
  have hk06 : Keeps NoB w w6 := (hk05.drew).trans' hk6 (fun i hi e => by omega)
  have hz6 : n1 ≤ w6.heap.size := by have := hk6.size; rw [hn1]; exact this
  (repeat first | (apply wr_move; exact rfl; with_reducible (conv => enter [6, 3]; whnf)) | (apply wr_assign; exact rfl; with_reducible (conv => enter [6, 3]; whnf)) | apply wr_end | apply wc_seq | apply wc_region | apply wc_skip | apply wc_block | (apply wr_cmp; (iterate 3 exact rfl); exact cmpF (by dsimp only [cmpN]; first | done | omega)) | (apply wr_pick (t := false); (iterate 2 exact rfl); with_reducible (conv => enter [6, 3]; whnf)) | (apply wc_false; exact rfl))
  refine wc_loopL (α := Nat × CLc × Nat) (fun p => [(0, .bool delta), (1, .slice a bl.length c), (5, .bool true), (6, .pointer (some ⟨bw3, 0, none⟩)), (11, .int .u64 (p.2.2 : Int)), (12, .int .i64 (p.1 : Int))])
    (fun p ds w' => ds = [] ∧ p.1 ≤ bl.length ∧ p.2.2 ≤ 256 ∧ CliO w' n1 p.2.1 ∧ topicOf p.2.1 3 = ((stW, nv), true, p.2.2) ∧ p.2.1.1 = delta ∧ w'.heap[bw3]? = some (.cells (GCl p.2.1).toArray 32 (0, 0)) ∧ Keeps NoB w w') (fun p => bl.length - p.1) (0, c1, 0)
    ⟨rfl, Nat.zero_le _, Nat.zero_le _, hO6, ht1, hd1, hc6, hk06⟩ ⟨rfl, rfl, rfl, rfl, rfl, rfl, trivial⟩ ?_
  rintro ⟨i, cc, last⟩ ds f0 w7 ⟨rfl, hi, hlast, hO7, ht7, hd7, hc7, hk07⟩
  dsimp only at hi hlast hO7 ht7 hd7 hc7 ⊢
  by_cases hlt : i < bl.length
  rotate_left
  · (repeat first | (apply wr_move; exact rfl; with_reducible (conv => enter [6, 3]; whnf)) | (apply wr_assign; exact rfl; with_reducible (conv => enter [6, 3]; whnf)) | apply wr_end | apply wc_seq | apply wc_region | (apply wr_len_slice; iterate 2 exact rfl) | (apply wr_cmp; (iterate 3 exact rfl); exact cmpF (by dsimp only [cmpN]; first | done | omega)) | (apply wr_pick (t := false); (iterate 2 exact rfl); with_reducible (conv => enter [6, 3]; whnf)) | (apply wc_false; exact rfl) | (apply wc_exit; try simp only [thenE, inBlockE, bodyQ, ↓reduceIte, Nat.reduceEqDiff]) | (apply wc_ret; try simp only [thenE, inBlockE, bodyQ]) | (apply wr_skip; exact rfl))
    exact leave1 (v := .bool true) rfl rfl ⟨rfl, hk07⟩
  by_cases hlt2 : i < 20
  rotate_left
  · (repeat first | (apply wr_move; exact rfl; with_reducible (conv => enter [6, 3]; whnf)) | (apply wr_assign; exact rfl; with_reducible (conv => enter [6, 3]; whnf)) | apply wr_end | apply wc_seq | apply wc_region | (apply wr_len_slice; iterate 2 exact rfl) | (apply wr_cmp; (iterate 3 exact rfl); exact cmpT (by dsimp only [cmpP]; first | done | omega)) | (apply wr_cmp; (iterate 3 exact rfl); exact cmpF (by dsimp only [cmpN]; first | done | omega)) | (apply wr_pick (t := true); (iterate 2 exact rfl); with_reducible (conv => enter [6, 3]; whnf)) | (apply wc_false; exact rfl) | (apply wc_exit; try simp only [thenE, inBlockE, bodyQ, ↓reduceIte, Nat.reduceEqDiff]) | (apply wc_ret; try simp only [thenE, inBlockE, bodyQ]))
    exact leave1 (v := .bool true) rfl rfl ⟨rfl, hk07⟩
  obtain ⟨b, o, rfl, cur, e, fr, hb, hr⟩ := hat (by omega)
  obtain ⟨x, hx⟩ : ∃ x, bl[i]? = some x := ⟨bl[i], by simp [hlt]⟩
  have hx8 := hb8 x (List.mem_of_getElem? hx)
  have hcell : cur[o + i * 1]? = some (.int .u8 (x : Int)) := by rw [Nat.mul_one, hr i (by omega)]; simp [IB, hx]
  have hb7 := hk07.heap hb (fun h => h)
  have hl7 := hO7.len
  have hE7 := hE.keep hk07
  have htw : takeE (rightB 3 (!delta) false (x + 1)) cc 3 (!delta) (x + 1) = some 7 := by
    unfold takeE
    rw [ht7, hd7]
    cases delta <;> rfl
  by_cases hgt : last < x + 1
  · have hte : takeE (rightB 3 delta false (x + 1)) cc 3 delta (x + 1) = none := by
      unfold takeE
      rw [ht7, hd7]
      dsimp only
      rw [decide_eq_true hgt]
      cases delta <;> rfl
    have hmx : max last (x + 1) = x + 1 := Nat.max_eq_right (by omega)
    have hmt : topicOf (takeC cc 3 (x + 1)) 3 = ((stW, nv), true, x + 1) := by rw [topicOf_take hl7 (by decide), ht7]
    (repeat first | (apply wr_move; exact rfl; with_reducible (conv => enter [6, 3]; whnf)) | apply wr_end | apply wc_seq | apply wc_region | apply wc_skip | apply wc_block | (apply wr_len_slice; iterate 2 exact rfl) | (apply wr_cmp; (iterate 3 exact rfl); exact cmpT (by dsimp only [cmpP]; first | done | omega)) | (apply wr_pick (t := true); (iterate 2 exact rfl); with_reducible (conv => enter [6, 3]; whnf)) | (apply wc_true; exact rfl))
    refine wr_indexAddr (i := i) rfl rfl rfl hlt ?_
    refine wr_load (v := .int .u8 (x : Int)) rfl rfl rfl hb7 hcell ?_
    (repeat first | (apply wr_assign; exact rfl; with_reducible (conv => enter [6, 3]; whnf)) | apply wr_end | apply wc_seq | apply wc_region | (apply wr_add; (iterate 3 exact rfl); exact w_fit (by dsimp only [kIn]; first | done | omega)) | (apply wr_conv; (iterate 2 exact rfl); exact w_fit (by dsimp only [kIn]; first | done | omega)))
    rw [show (x : Int) + 1 = ((x + 1 : Nat) : Int) from rfl]
    refine wr_loadAll (cs := GCl cc) rfl rfl rfl hc7 (GCl_len hl7) ?_
    (repeat first | (apply wr_move; exact rfl; with_reducible (conv => enter [6, 3]; whnf)))
    refine wr_build (ps := [(0, .int .i64 3), (1, .bool delta), (3, .int .u64 ((x + 1 : Nat) : Int))]) (cs := GRp 3 delta false (x + 1) 0 nilV nilV) rfl rfl rfl rfl ?_
    refine wr_call (vs := [CliV cc, .agg (GRp 3 delta false (x + 1) 0 nilV nilV).toArray]) rfl (take_ok hO7.at hE7 (by omega) hte) rfl ?_
    rintro v w8 ⟨rfl, hk8⟩
    have hO78 : CliO w8 n1 cc := hO7.keep hk8
    have hO8 : CliO w8 n1 (takeC cc 3 (x + 1)) := takeC_O hO78 3 (by omega)
    have hl8 := hO8.len
    (repeat first | (apply wr_move; exact rfl; with_reducible (conv => enter [6, 3]; whnf)) | (apply wr_alloc; exact rfl) | (apply wr_extract; (iterate 3 exact rfl); with_reducible (conv => enter [6, 3]; whnf)))
    refine wr_storeAll (cs := GCl (takeC cc 3 (x + 1))) rfl rfl rfl (GCl_one hO8.at) (heap_alloc_same _ _) (GCl_len hl8) rfl ?_
    refine wr_name ?_
    intro w9 hww9
    obtain ⟨bw9, hbw9⟩ : ∃ b, b = (w8).heap.size := ⟨_, rfl⟩
    have hkw9 : Keeps NoB w8 w9 := by rw [hww9]; exact ((Keeps.refl NoB w8).alloc _).put _ (fun h => by omega)
    have hcw9 : (w9).heap[bw9]? = some (.cells (GCl (takeC cc 3 (x + 1))).toArray 32 (0, 0)) := by rw [hww9, hbw9]; exact World.putObj_heap_same (by simp)
    rw [← hbw9]
    clear hww9
    have hk79 := hk8.trans hkw9
    have hc79 := hk79.heap hc7 (fun h => h)
    have hO79 := hO7.keep hk79
    (repeat first | (apply wr_assign; exact rfl; with_reducible (conv => enter [6, 3]; whnf)) | apply wr_end | apply wc_seq | apply wc_region)
    refine wr_loadAll (cs := GCl cc) rfl rfl rfl hc79 (GCl_len hl7) ?_
    (repeat first | (apply wr_move; exact rfl; with_reducible (conv => enter [6, 3]; whnf)) | (apply wr_not; iterate 2 exact rfl))
    refine wr_build (ps := [(0, .int .i64 3), (1, .bool !delta), (3, .int .u64 ((x + 1 : Nat) : Int))]) (cs := GRp 3 (!delta) false (x + 1) 0 nilV nilV) rfl rfl rfl rfl ?_
    refine wr_call (vs := [CliV cc, .agg (GRp 3 (!delta) false (x + 1) 0 nilV nilV).toArray]) rfl (take_no hO79.at (hE7.keep hk79) (by omega) htw) rfl ?_
    rintro v wa ⟨rfl, hka⟩
    have hO7a := hO79.keep hka
    (repeat first | (apply wr_move; exact rfl; with_reducible (conv => enter [6, 3]; whnf)) | (apply wr_alloc; exact rfl) | (apply wr_extract; (iterate 3 exact rfl); with_reducible (conv => enter [6, 3]; whnf)))
    refine wr_storeAll (cs := GCl cc) rfl rfl rfl (GCl_one hO7a.at) (heap_alloc_same _ _) (GCl_len hl7) rfl ?_
    refine wr_name ?_
    intro wb hwwb
    obtain ⟨bwb, hbwb⟩ : ∃ b, b = (wa).heap.size := ⟨_, rfl⟩
    have hkwb : Keeps NoB wa wb := by rw [hwwb]; exact ((Keeps.refl NoB wa).alloc _).put _ (fun h => by omega)
    have hcwb : (wb).heap[bwb]? = some (.cells (GCl cc).toArray 32 (0, 0)) := by rw [hwwb, hbwb]; exact World.putObj_heap_same (by simp)
    rw [← hbwb]
    clear hwwb
    have hk7b := (hk79.trans hka).trans hkwb
    have hc7b := hk7b.heap hc7 (fun h => h)
    have hc9b := (hka.trans hkwb).heap hcw9 (fun h => h)
    have hOb := ((hO8.keep hkw9).keep hka).keep hkwb
    (repeat first | (apply wr_move; exact rfl; with_reducible (conv => enter [6, 3]; whnf)) | (apply wr_assign; exact rfl; with_reducible (conv => enter [6, 3]; whnf)) | apply wr_end | apply wc_seq | apply wc_region | (apply wr_cmp; (iterate 3 exact rfl); exact cmpT (by dsimp only [cmpP]; first | done | omega)))
    refine wr_boolNe (c := false) rfl rfl rfl rfl ?_
    (repeat first | (apply wr_move; exact rfl; with_reducible (conv => enter [6, 3]; whnf)) | apply wr_end | apply wc_seq | apply wc_region | apply wc_skip | (apply wr_cmp; (iterate 3 exact rfl); exact cmpF (by dsimp only [cmpN]; first | done | omega)) | (apply wr_pick (t := false); (iterate 2 exact rfl); with_reducible (conv => enter [6, 3]; whnf)) | (apply wc_false; exact rfl) | (apply wr_skip; exact rfl))
    refine wr_max (c := ((max last (x + 1) : Nat) : Int)) rfl rfl rfl (max_int _ _) ?_
    (repeat first | (apply wr_assign; exact rfl; with_reducible (conv => enter [6, 3]; whnf)) | apply wr_end | apply wc_seq | apply wc_region)
    refine wr_loadAll (cs := GCl (takeC cc 3 (x + 1))) rfl rfl rfl hc9b (GCl_len hl8) ?_
    refine wr_storeAll (cs := GCl (takeC cc 3 (x + 1))) rfl rfl rfl (GCl_one hOb.at) hc7b (GCl_len hl8) (GCl_len hl7) ?_
    refine wr_name ?_
    intro wc hwwc
    have hkwc : Keeps (· = bw3) wb wc := by rw [hwwc]; exact (Keeps.refl _ wb).put _ (fun _ => rfl)
    have hcwc : (wc).heap[bw3]? = some (.cells (GCl (takeC cc 3 (x + 1))).toArray 32 (0, 0)) := by rw [hwwc]; exact World.putObj_heap_same (lt_of_heap hc7b)
    clear hwwc
    have hOc : CliO wc n1 (takeC cc 3 (x + 1)) := hOb.keep1 hkwc hc7b (by decide)
    have hk7c : Keeps NoB w wc := (hk07.trans hk7b).trans' hkwc (fun i hi e => by omega)
    have hEc := hE.keep hk7c
    (repeat first | apply wr_end | apply wc_seq | apply wc_region)
    refine wr_loadAll (cs := GCl (takeC cc 3 (x + 1))) rfl rfl rfl hcwc (GCl_len hl8) ?_
    refine wr_call (vs := [CliV (takeC cc 3 (x + 1)), .int .i64 3, S [100]]) rfl (answer_ok hOc.at hEc (by decide) (by unfold answerE; rw [hmt]; dsimp only; rw [decide_eq_true (show 0 < x + 1 by omega)]; rfl)) rfl ?_
    rintro v wd ⟨⟨s2, l2, rfl, hl2, hs2⟩, hkd⟩
    rw [hmt] at hl2 ⊢
    rw [show (takeC cc 3 (x + 1)).1 = delta from hd7] at hl2 ⊢
    dsimp only
    (repeat first | (apply wr_move; exact rfl; with_reducible (conv => enter [6, 3]; whnf)) | (apply wr_alloc; exact rfl) | (apply wr_extract; (iterate 3 exact rfl); with_reducible (conv => enter [6, 3]; whnf)))
    refine wr_storeAll (cs := GRq 3 delta (x + 1) s2 nilV nilV [100]) rfl rfl rfl (GRq_one (own_one hs2) rfl rfl) (heap_alloc_same _ _) rfl rfl ?_
    refine wr_name ?_
    intro we hwwe
    obtain ⟨bwe, hbwe⟩ : ∃ b, b = (wd).heap.size := ⟨_, rfl⟩
    have hkwe : Keeps NoB wd we := by rw [hwwe]; exact ((Keeps.refl NoB wd).alloc _).put _ (fun h => by omega)
    have hcwe : (we).heap[bwe]? = some (.cells (GRq 3 delta (x + 1) s2 nilV nilV [100]).toArray 42 (0, 0)) := by rw [hwwe, hbwe]; exact World.putObj_heap_same (by simp)
    rw [← hbwe]
    clear hwwe
    have hk7e := (hk7c.trans hkd).trans hkwe
    have hce := (hkd.trans hkwe).heap hcwc (fun h => h)
    have hOe := (hOc.keep hkd).keep hkwe
    obtain ⟨sa, sc, rfl⟩ := own_sl hs2
    clear hs2
    cases delta with
    | true =>
      rw [show l2.length = 0 by rw [hl2]; rfl] at hcwe
      (repeat first | (apply wr_move; exact rfl; with_reducible (conv => enter [6, 3]; whnf)) | (apply wr_assign; exact rfl; with_reducible (conv => enter [6, 3]; whnf)) | apply wr_end | apply wc_seq | apply wc_region | (apply wr_fieldAddr; iterate 2 exact rfl) | (apply wr_len_slice; iterate 2 exact rfl) | (apply wr_load; (iterate 3 exact rfl); (focus repeat first | with_reducible assumption | exact heap_alloc_same _ _ | exact World.putObj_heap_same (by first | omega | (simp only [World.size_alloc, World.putObj_size, ne_eq]; omega)) | ((first | refine hAl ?_ ?_ | refine hPu ?_ ?_); focus first | omega | (simp only [World.size_alloc, World.putObj_size, ne_eq]; omega))); exact rfl; conv => enter [6, 3]; whnf) | (apply wr_cmp; (iterate 3 exact rfl); exact cmpF (by dsimp only [cmpN]; first | done | omega)) | (apply wr_pick (t := false); (iterate 2 exact rfl); with_reducible (conv => enter [6, 3]; whnf)) | (apply wr_strnec; (iterate 3 exact rfl); (first | exact decide_eq_true (by with_reducible assumption) | exact decide_eq_false (by with_reducible assumption) | exact decide_eq_true rfl | exact rfl); with_reducible (conv => enter [6, 3]; whnf)))
      refine wr_boolEq (c := false) rfl rfl rfl rfl ?_
      (repeat first | (apply wr_move; exact rfl; with_reducible (conv => enter [6, 3]; whnf)) | (apply wr_assign; exact rfl; with_reducible (conv => enter [6, 3]; whnf)) | apply wr_end | apply wc_region | apply wc_skip | (apply wr_pick (t := false); (iterate 2 exact rfl); with_reducible (conv => enter [6, 3]; whnf)) | (apply wr_add; (iterate 3 exact rfl); exact w_fit (by dsimp only [kIn]; first | done | omega)) | (apply wc_false; exact rfl))
      exact ⟨(i + 1, takeC cc 3 (x + 1), x + 1), by dsimp only; omega, ⟨by trivial, by dsimp only; omega, by dsimp only; omega, hOe, hmt, hd7, hce, hk7e⟩, rfl, rfl, rfl, rfl, (by show Value.int .u64 ((max last (x + 1) : Nat) : Int) = Value.int .u64 ((x + 1 : Nat) : Int); rw [hmx]), rfl, trivial⟩
    | false =>
      rw [show l2.length = 1 by rw [hl2]; rfl] at hcwe
      (repeat first | (apply wr_move; exact rfl; with_reducible (conv => enter [6, 3]; whnf)) | (apply wr_assign; exact rfl; with_reducible (conv => enter [6, 3]; whnf)) | apply wr_end | apply wc_seq | apply wc_region | (apply wr_fieldAddr; iterate 2 exact rfl) | (apply wr_len_slice; iterate 2 exact rfl) | (apply wr_load; (iterate 3 exact rfl); (focus repeat first | with_reducible assumption | exact heap_alloc_same _ _ | exact World.putObj_heap_same (by first | omega | (simp only [World.size_alloc, World.putObj_size, ne_eq]; omega)) | ((first | refine hAl ?_ ?_ | refine hPu ?_ ?_); focus first | omega | (simp only [World.size_alloc, World.putObj_size, ne_eq]; omega))); exact rfl; conv => enter [6, 3]; whnf) | (apply wr_cmp; (iterate 3 exact rfl); exact cmpT (by dsimp only [cmpP]; first | done | omega)) | (apply wr_cmp; (iterate 3 exact rfl); exact cmpF (by dsimp only [cmpN]; first | done | omega)) | (apply wr_pick (t := false); (iterate 2 exact rfl); with_reducible (conv => enter [6, 3]; whnf)) | (apply wr_strnec; (iterate 3 exact rfl); (first | exact decide_eq_true (by with_reducible assumption) | exact decide_eq_false (by with_reducible assumption) | exact decide_eq_true rfl | exact rfl); with_reducible (conv => enter [6, 3]; whnf)))
      refine wr_boolEq (c := false) rfl rfl rfl rfl ?_
      (repeat first | (apply wr_move; exact rfl; with_reducible (conv => enter [6, 3]; whnf)) | (apply wr_assign; exact rfl; with_reducible (conv => enter [6, 3]; whnf)) | apply wr_end | apply wc_region | apply wc_skip | (apply wr_pick (t := false); (iterate 2 exact rfl); with_reducible (conv => enter [6, 3]; whnf)) | (apply wr_add; (iterate 3 exact rfl); exact w_fit (by dsimp only [kIn]; first | done | omega)) | (apply wc_false; exact rfl))
      exact ⟨(i + 1, takeC cc 3 (x + 1), x + 1), by dsimp only; omega, ⟨by trivial, by dsimp only; omega, by dsimp only; omega, hOe, hmt, hd7, hce, hk7e⟩, rfl, rfl, rfl, rfl, (by show Value.int .u64 ((max last (x + 1) : Nat) : Int) = Value.int .u64 ((x + 1 : Nat) : Int); rw [hmx]), rfl, trivial⟩
  · have hte : takeE (rightB 3 delta false (x + 1)) cc 3 delta (x + 1) = some 6 := by
      unfold takeE
      rw [ht7, hd7]
      dsimp only
      rw [decide_eq_false hgt]
      cases delta <;> rfl
    have hmx : max last (x + 1) = last := Nat.max_eq_left (by omega)
    have hmt := ht7
    (repeat first | (apply wr_move; exact rfl; with_reducible (conv => enter [6, 3]; whnf)) | apply wr_end | apply wc_seq | apply wc_region | apply wc_skip | apply wc_block | (apply wr_len_slice; iterate 2 exact rfl) | (apply wr_cmp; (iterate 3 exact rfl); exact cmpT (by dsimp only [cmpP]; first | done | omega)) | (apply wr_pick (t := true); (iterate 2 exact rfl); with_reducible (conv => enter [6, 3]; whnf)) | (apply wc_true; exact rfl))
    refine wr_indexAddr (i := i) rfl rfl rfl hlt ?_
    refine wr_load (v := .int .u8 (x : Int)) rfl rfl rfl hb7 hcell ?_
    (repeat first | (apply wr_assign; exact rfl; with_reducible (conv => enter [6, 3]; whnf)) | apply wr_end | apply wc_seq | apply wc_region | (apply wr_add; (iterate 3 exact rfl); exact w_fit (by dsimp only [kIn]; first | done | omega)) | (apply wr_conv; (iterate 2 exact rfl); exact w_fit (by dsimp only [kIn]; first | done | omega)))
    rw [show (x : Int) + 1 = ((x + 1 : Nat) : Int) from rfl]
    refine wr_loadAll (cs := GCl cc) rfl rfl rfl hc7 (GCl_len hl7) ?_
    (repeat first | (apply wr_move; exact rfl; with_reducible (conv => enter [6, 3]; whnf)))
    refine wr_build (ps := [(0, .int .i64 3), (1, .bool delta), (3, .int .u64 ((x + 1 : Nat) : Int))]) (cs := GRp 3 delta false (x + 1) 0 nilV nilV) rfl rfl rfl rfl ?_
    refine wr_call (vs := [CliV cc, .agg (GRp 3 delta false (x + 1) 0 nilV nilV).toArray]) rfl (take_no hO7.at hE7 (by omega) hte) rfl ?_
    rintro v w8 ⟨rfl, hk8⟩
    have hO78 : CliO w8 n1 cc := hO7.keep hk8
    have hO8 : CliO w8 n1 (cc) := hO78
    have hl8 := hO8.len
    (repeat first | (apply wr_move; exact rfl; with_reducible (conv => enter [6, 3]; whnf)) | (apply wr_alloc; exact rfl) | (apply wr_extract; (iterate 3 exact rfl); with_reducible (conv => enter [6, 3]; whnf)))
    refine wr_storeAll (cs := GCl (cc)) rfl rfl rfl (GCl_one hO8.at) (heap_alloc_same _ _) (GCl_len hl8) rfl ?_
    refine wr_name ?_
    intro w9 hww9
    obtain ⟨bw9, hbw9⟩ : ∃ b, b = (w8).heap.size := ⟨_, rfl⟩
    have hkw9 : Keeps NoB w8 w9 := by rw [hww9]; exact ((Keeps.refl NoB w8).alloc _).put _ (fun h => by omega)
    have hcw9 : (w9).heap[bw9]? = some (.cells (GCl (cc)).toArray 32 (0, 0)) := by rw [hww9, hbw9]; exact World.putObj_heap_same (by simp)
    rw [← hbw9]
    clear hww9
    have hk79 := hk8.trans hkw9
    have hc79 := hk79.heap hc7 (fun h => h)
    have hO79 := hO7.keep hk79
    (repeat first | (apply wr_assign; exact rfl; with_reducible (conv => enter [6, 3]; whnf)) | apply wr_end | apply wc_seq | apply wc_region)
    refine wr_loadAll (cs := GCl cc) rfl rfl rfl hc79 (GCl_len hl7) ?_
    (repeat first | (apply wr_move; exact rfl; with_reducible (conv => enter [6, 3]; whnf)) | (apply wr_not; iterate 2 exact rfl))
    refine wr_build (ps := [(0, .int .i64 3), (1, .bool !delta), (3, .int .u64 ((x + 1 : Nat) : Int))]) (cs := GRp 3 (!delta) false (x + 1) 0 nilV nilV) rfl rfl rfl rfl ?_
    refine wr_call (vs := [CliV cc, .agg (GRp 3 (!delta) false (x + 1) 0 nilV nilV).toArray]) rfl (take_no hO79.at (hE7.keep hk79) (by omega) htw) rfl ?_
    rintro v wa ⟨rfl, hka⟩
    have hO7a := hO79.keep hka
    (repeat first | (apply wr_move; exact rfl; with_reducible (conv => enter [6, 3]; whnf)) | (apply wr_alloc; exact rfl) | (apply wr_extract; (iterate 3 exact rfl); with_reducible (conv => enter [6, 3]; whnf)))
    refine wr_storeAll (cs := GCl cc) rfl rfl rfl (GCl_one hO7a.at) (heap_alloc_same _ _) (GCl_len hl7) rfl ?_
    refine wr_name ?_
    intro wb hwwb
    obtain ⟨bwb, hbwb⟩ : ∃ b, b = (wa).heap.size := ⟨_, rfl⟩
    have hkwb : Keeps NoB wa wb := by rw [hwwb]; exact ((Keeps.refl NoB wa).alloc _).put _ (fun h => by omega)
    have hcwb : (wb).heap[bwb]? = some (.cells (GCl cc).toArray 32 (0, 0)) := by rw [hwwb, hbwb]; exact World.putObj_heap_same (by simp)
    rw [← hbwb]
    clear hwwb
    have hk7b := (hk79.trans hka).trans hkwb
    have hc7b := hk7b.heap hc7 (fun h => h)
    have hc9b := (hka.trans hkwb).heap hcw9 (fun h => h)
    have hOb := ((hO8.keep hkw9).keep hka).keep hkwb
    (repeat first | (apply wr_move; exact rfl; with_reducible (conv => enter [6, 3]; whnf)) | (apply wr_assign; exact rfl; with_reducible (conv => enter [6, 3]; whnf)) | apply wr_end | apply wc_seq | apply wc_region | (apply wr_cmp; (iterate 3 exact rfl); exact cmpF (by dsimp only [cmpN]; first | done | omega)))
    refine wr_boolNe (c := false) rfl rfl rfl rfl ?_
    (repeat first | (apply wr_move; exact rfl; with_reducible (conv => enter [6, 3]; whnf)) | apply wr_end | apply wc_seq | apply wc_region | apply wc_skip | (apply wr_cmp; (iterate 3 exact rfl); exact cmpT (by dsimp only [cmpP]; first | done | omega)) | (apply wr_cmp; (iterate 3 exact rfl); exact cmpF (by dsimp only [cmpN]; first | done | omega)) | (apply wr_pick (t := true); (iterate 2 exact rfl); with_reducible (conv => enter [6, 3]; whnf)) | (apply wr_pick (t := false); (iterate 2 exact rfl); with_reducible (conv => enter [6, 3]; whnf)) | (apply wc_false; exact rfl))
    refine wr_max (c := ((max last (x + 1) : Nat) : Int)) rfl rfl rfl (max_int _ _) ?_
    (repeat first | (apply wr_assign; exact rfl; with_reducible (conv => enter [6, 3]; whnf)) | apply wr_end | apply wc_seq | apply wc_region)
    refine wr_loadAll (cs := GCl (cc)) rfl rfl rfl hc9b (GCl_len hl8) ?_
    refine wr_storeAll (cs := GCl (cc)) rfl rfl rfl (GCl_one hOb.at) hc7b (GCl_len hl8) (GCl_len hl7) ?_
    refine wr_name ?_
    intro wc hwwc
    have hkwc : Keeps (· = bw3) wb wc := by rw [hwwc]; exact (Keeps.refl _ wb).put _ (fun _ => rfl)
    have hcwc : (wc).heap[bw3]? = some (.cells (GCl (cc)).toArray 32 (0, 0)) := by rw [hwwc]; exact World.putObj_heap_same (lt_of_heap hc7b)
    clear hwwc
    have hOc : CliO wc n1 (cc) := hOb.keep1 hkwc hc7b (by decide)
    have hk7c : Keeps NoB w wc := (hk07.trans hk7b).trans' hkwc (fun i hi e => by omega)
    have hEc := hE.keep hk7c
    (repeat first | apply wr_end | apply wc_seq | apply wc_region)
    refine wr_loadAll (cs := GCl (cc)) rfl rfl rfl hcwc (GCl_len hl8) ?_
    refine wr_call (vs := [CliV (cc), .int .i64 3, S [100]]) rfl (answer_ok hOc.at hEc (by decide) (by unfold answerE; rw [hmt]; dsimp only; rw [decide_eq_true (show 0 < last by omega)]; rfl)) rfl ?_
    rintro v wd ⟨⟨s2, l2, rfl, hl2, hs2⟩, hkd⟩
    rw [hmt] at hl2 ⊢
    rw [show (cc).1 = delta from hd7] at hl2 ⊢
    dsimp only
    (repeat first | (apply wr_move; exact rfl; with_reducible (conv => enter [6, 3]; whnf)) | (apply wr_alloc; exact rfl) | (apply wr_extract; (iterate 3 exact rfl); with_reducible (conv => enter [6, 3]; whnf)))
    refine wr_storeAll (cs := GRq 3 delta (last) s2 nilV nilV [100]) rfl rfl rfl (GRq_one (own_one hs2) rfl rfl) (heap_alloc_same _ _) rfl rfl ?_
    refine wr_name ?_
    intro we hwwe
    obtain ⟨bwe, hbwe⟩ : ∃ b, b = (wd).heap.size := ⟨_, rfl⟩
    have hkwe : Keeps NoB wd we := by rw [hwwe]; exact ((Keeps.refl NoB wd).alloc _).put _ (fun h => by omega)
    have hcwe : (we).heap[bwe]? = some (.cells (GRq 3 delta (last) s2 nilV nilV [100]).toArray 42 (0, 0)) := by rw [hwwe, hbwe]; exact World.putObj_heap_same (by simp)
    rw [← hbwe]
    clear hwwe
    have hk7e := (hk7c.trans hkd).trans hkwe
    have hce := (hkd.trans hkwe).heap hcwc (fun h => h)
    have hOe := (hOc.keep hkd).keep hkwe
    obtain ⟨sa, sc, rfl⟩ := own_sl hs2
    clear hs2
    cases delta with
    | true =>
      rw [show l2.length = 0 by rw [hl2]; rfl] at hcwe
      (repeat first | (apply wr_move; exact rfl; with_reducible (conv => enter [6, 3]; whnf)) | (apply wr_assign; exact rfl; with_reducible (conv => enter [6, 3]; whnf)) | apply wr_end | apply wc_seq | apply wc_region | (apply wr_fieldAddr; iterate 2 exact rfl) | (apply wr_len_slice; iterate 2 exact rfl) | (apply wr_load; (iterate 3 exact rfl); (focus repeat first | with_reducible assumption | exact heap_alloc_same _ _ | exact World.putObj_heap_same (by first | omega | (simp only [World.size_alloc, World.putObj_size, ne_eq]; omega)) | ((first | refine hAl ?_ ?_ | refine hPu ?_ ?_); focus first | omega | (simp only [World.size_alloc, World.putObj_size, ne_eq]; omega))); exact rfl; conv => enter [6, 3]; whnf) | (apply wr_cmp; (iterate 3 exact rfl); exact cmpF (by dsimp only [cmpN]; first | done | omega)) | (apply wr_pick (t := false); (iterate 2 exact rfl); with_reducible (conv => enter [6, 3]; whnf)) | (apply wr_strnec; (iterate 3 exact rfl); (first | exact decide_eq_true (by with_reducible assumption) | exact decide_eq_false (by with_reducible assumption) | exact decide_eq_true rfl | exact rfl); with_reducible (conv => enter [6, 3]; whnf)))
      refine wr_boolEq (c := false) rfl rfl rfl rfl ?_
      (repeat first | (apply wr_move; exact rfl; with_reducible (conv => enter [6, 3]; whnf)) | (apply wr_assign; exact rfl; with_reducible (conv => enter [6, 3]; whnf)) | apply wr_end | apply wc_region | apply wc_skip | (apply wr_pick (t := false); (iterate 2 exact rfl); with_reducible (conv => enter [6, 3]; whnf)) | (apply wr_add; (iterate 3 exact rfl); exact w_fit (by dsimp only [kIn]; first | done | omega)) | (apply wc_false; exact rfl))
      exact ⟨(i + 1, cc, last), by dsimp only; omega, ⟨by trivial, by dsimp only; omega, by dsimp only; omega, hOe, hmt, hd7, hce, hk7e⟩, rfl, rfl, rfl, rfl, (by show Value.int .u64 ((max last (x + 1) : Nat) : Int) = Value.int .u64 ((last : Nat) : Int); rw [hmx]), rfl, trivial⟩
    | false =>
      rw [show l2.length = 1 by rw [hl2]; rfl] at hcwe
      (repeat first | (apply wr_move; exact rfl; with_reducible (conv => enter [6, 3]; whnf)) | (apply wr_assign; exact rfl; with_reducible (conv => enter [6, 3]; whnf)) | apply wr_end | apply wc_seq | apply wc_region | (apply wr_fieldAddr; iterate 2 exact rfl) | (apply wr_len_slice; iterate 2 exact rfl) | (apply wr_load; (iterate 3 exact rfl); (focus repeat first | with_reducible assumption | exact heap_alloc_same _ _ | exact World.putObj_heap_same (by first | omega | (simp only [World.size_alloc, World.putObj_size, ne_eq]; omega)) | ((first | refine hAl ?_ ?_ | refine hPu ?_ ?_); focus first | omega | (simp only [World.size_alloc, World.putObj_size, ne_eq]; omega))); exact rfl; conv => enter [6, 3]; whnf) | (apply wr_cmp; (iterate 3 exact rfl); exact cmpT (by dsimp only [cmpP]; first | done | omega)) | (apply wr_cmp; (iterate 3 exact rfl); exact cmpF (by dsimp only [cmpN]; first | done | omega)) | (apply wr_pick (t := false); (iterate 2 exact rfl); with_reducible (conv => enter [6, 3]; whnf)) | (apply wr_strnec; (iterate 3 exact rfl); (first | exact decide_eq_true (by with_reducible assumption) | exact decide_eq_false (by with_reducible assumption) | exact decide_eq_true rfl | exact rfl); with_reducible (conv => enter [6, 3]; whnf)))
      refine wr_boolEq (c := false) rfl rfl rfl rfl ?_
      (repeat first | (apply wr_move; exact rfl; with_reducible (conv => enter [6, 3]; whnf)) | (apply wr_assign; exact rfl; with_reducible (conv => enter [6, 3]; whnf)) | apply wr_end | apply wc_region | apply wc_skip | (apply wr_pick (t := false); (iterate 2 exact rfl); with_reducible (conv => enter [6, 3]; whnf)) | (apply wr_add; (iterate 3 exact rfl); exact w_fit (by dsimp only [kIn]; first | done | omega)) | (apply wc_false; exact rfl))
      exact ⟨(i + 1, cc, last), by dsimp only; omega, ⟨by trivial, by dsimp only; omega, by dsimp only; omega, hOe, hmt, hd7, hce, hk7e⟩, rfl, rfl, rfl, rfl, (by show Value.int .u64 ((max last (x + 1) : Nat) : Int) = Value.int .u64 ((last : Nat) : Int); rw [hmx]), rfl, trivial⟩
end Go.Proofs.YtahlhldkcekbfaaGreatDoor
