/- ClientFull. -/
import Derived.Test.YtahlhldkcekbfaaGreatDoorGm
import Derived.Test.YtahlhldkcekbfaaGreatDoorGl
import Derived.Test.YtahlhldkcekbfaaGreatDoorGt
namespace Go.Proofs.YtahlhldkcekbfaaGreatDoor
open Go Go.V Go.RowKit
set_option linter.unusedVariables false
set_option linter.unusedSimpArgs false

def nmF (i : Nat) : TT := [UInt8.ofNat (97 + i / 20), UInt8.ofNat (97 + i % 20)]
def lst (k : Nat) : TX := (List.range k).map nmF
theorem lst_len (k : Nat) : (lst k).length = k := by simp [lst]
theorem lst_take {k : Nat} (hk : k ≤ 80) : lst k = (lst 80).take k := by
  unfold lst
  rw [← List.map_take, List.take_range, Nat.min_eq_left hk]
theorem lst80_rises : Rises (lst 80) := by
  unfold Rises
  decide +kernel
theorem lst80_ok : ∀ x ∈ lst 80, nameOk x := by decide +kernel
theorem lst_fine {k : Nat} (hk : k ≤ 80) : Fine (false, lst k) := by
  rw [lst_take hk]
  exact ⟨lst80_rises.sublist (List.take_sublist _ _), fun x hx => lst80_ok x (List.mem_of_mem_take hx)⟩
theorem lstO {k : Nat} (hk : k ≤ 80) : ofP (lst k) = (false, lst k) := ofP_listP (lst_fine hk)
theorem less_none (l : TX) : lessP (false, l) (false, []) = (false, l) := by
  unfold lessP keepF
  simp
theorem askE_full {d : Bool} {k : Nat} : askE (newC d) 1 (false, lst k) ([] : List HV).length = if k ≤ 64 then none else some 4 := by
  have h2 : (moreL (newC d) zeroT.1.1 (false, lst k)).length ≤ k := by
    unfold moreL
    split
    · show (listP (lessP (false, lst k) (false, []))).length ≤ k
      rw [less_none]
      show (lst k).length ≤ k
      rw [lst_len]
      exact Nat.le_refl _
    · simp
  have h3 : (lessL (newC d) zeroT.1.1 (false, lst k)).length ≤ 64 := by
    unfold lessL
    split
    · simp [lessP, zeroT, zeroSE, listP, keepF_nil]
    · simp
  unfold askE
  rw [topicOf_new]
  show firstO [errOf (typedB 1) 1, errOf (!false || _) 5, errOf ((decide ((lst k).length ≤ 64) && _) && _) 4] = _
  rw [lst_len]
  by_cases h : k ≤ 64
  · rw [if_pos h, decide_eq_true h, decide_eq_true (show (moreL (newC d) zeroT.1.1 (false, lst k)).length ≤ 64 by omega), decide_eq_true h3]
    rfl
  · rw [if_neg h, decide_eq_false h]
    rfl
theorem chr2_bytes {i : Nat} (h : i < 80) : bytesV (nmF i) = [.int .u8 (97 + ((i / 20 : Nat) : Int)), .int .u8 (97 + ((i % 20 : Nat) : Int))] := by
  have h1 : ((UInt8.ofNat (97 + i / 20)).toNat : Int) = 97 + ((i / 20 : Nat) : Int) := by
    rw [UInt8.toNat_ofNat']
    omega
  have h2 : ((UInt8.ofNat (97 + i % 20)).toNat : Int) = 97 + ((i % 20 : Nat) : Int) := by
    rw [UInt8.toNat_ofNat']
    omega
  show [Value.int .u8 ((UInt8.ofNat (97 + i / 20)).toNat : Int), Value.int .u8 ((UInt8.ofNat (97 + i % 20)).toNat : Int)] = _
  rw [h1, h2]
set_option maxRecDepth 100000 in
set_option maxHeartbeats 8000000 in
theorem full_law (delta : Bool) (n : Nat) (hn : n < 256) {w : World} (hE : ErrT w) :
    Ca Tryz.prog 5 #[.bool delta, .int .u8 (n : Int)] w fun v w' => v = .bool true ∧ Keeps NoB w w' := by
  refine ca_of_body (args := [.bool delta, .int .u8 (n : Int)]) Tryz.func5 rfl (by kernel_rfl) ?_
  (repeat first | (apply wr_assign; exact rfl; with_reducible (conv => enter [6, 3]; whnf)) | apply wr_end | apply wc_seq | apply wc_region)
  refine wr_call (vs := []) rfl (examples_ca hE) rfl ?_
  rintro v w1 ⟨rfl, hk1⟩
  have hz1 := hk1.size
  have hE1 := hE.keep hk1
  (repeat first | (apply wr_move; exact rfl; with_reducible (conv => enter [6, 3]; whnf)) | (apply wr_assign; exact rfl; with_reducible (conv => enter [6, 3]; whnf)) | apply wr_end | apply wc_seq | apply wc_region | apply wc_skip | (apply wr_not; iterate 2 exact rfl) | (apply wc_false; exact rfl))
  refine wr_remN (n := n) (m := 81) rfl rfl rfl (by decide) ?_
  have hk80 : n % 81 ≤ 80 := by have := Nat.mod_lt n (show 0 < 81 by decide); omega
  obtain ⟨k, hk⟩ : ∃ k, k = n % 81 := ⟨_, rfl⟩
  rw [← hk] at hk80 ⊢
  clear hk
  (repeat first | (apply wr_assign; exact rfl; with_reducible (conv => enter [6, 3]; whnf)) | apply wr_end | apply wc_seq | apply wc_region | apply wc_block | (apply wr_conv; (iterate 2 exact rfl); exact w_fit (by dsimp only [kIn]; first | done | omega)))
  refine wc_loopL (α := Nat × Value) (fun p => [(0, .bool delta), (5, .bool true), (6, .int .i64 (k : Int)), (7, p.2), (8, .int .i64 (p.1 : Int))])
    (fun p ds w' => ds = [] ∧ p.1 ≤ k ∧ w'.ownsRow w.heap.size 9 1 p.2 p.1 (SL (lst p.1)) ∧ Keeps NoB w w') (fun p => k - p.1) (0, nilV)
    ⟨rfl, Nat.zero_le _, own_nilV _ _ _ _, hk1⟩ ⟨rfl, rfl, rfl, rfl, rfl, trivial⟩ ?_
  rintro ⟨i, v⟩ ds f0 w2 ⟨rfl, hi, ho, hk02⟩
  dsimp only at hi ho ⊢
  by_cases hlt : i < k
  · have hi80 : i < 80 := by omega
    have hq : i / 20 ≤ 4 := by omega
    have hr : i % 20 < 20 := Nat.mod_lt _ (by decide)
    (repeat first | (apply wr_move; exact rfl; with_reducible (conv => enter [6, 3]; whnf)) | apply wr_end | apply wc_seq | apply wc_region | apply wc_skip | apply wc_block | (apply wr_cmp; (iterate 3 exact rfl); exact cmpT (by dsimp only [cmpP]; first | done | omega)) | (apply wc_true; exact rfl))
    refine wr_quoN (n := i) (m := 20) rfl rfl rfl (by decide) (w_fit (by dsimp only [kIn]; omega)) ?_
    (repeat first | (apply wr_move; exact rfl; with_reducible (conv => enter [6, 3]; whnf)) | (apply wr_add; (iterate 3 exact rfl); exact w_fit (by dsimp only [kIn]; first | done | omega)) | (apply wr_conv; (iterate 2 exact rfl); exact w_fit (by dsimp only [kIn]; first | done | omega)))
    refine wr_remN (n := i) (m := 20) rfl rfl rfl (by decide) ?_
    (repeat first | (apply wr_add; (iterate 3 exact rfl); exact w_fit (by dsimp only [kIn]; first | done | omega)) | (apply wr_conv; (iterate 2 exact rfl); exact w_fit (by dsimp only [kIn]; first | done | omega)))
    refine wr_buildSlice (vs := [.int .u8 (97 + ((i / 20 : Nat) : Int)), .int .u8 (97 + ((i % 20 : Nat) : Int))]) rfl rfl (by intro v hv; simp at hv; rcases hv with rfl | rfl <;> rfl) rfl (by decide) (by decide) (by decide) ?_
    refine wr_name ?_
    intro w3 hw3
    have hk3 : Keeps NoB w2 w3 := by rw [hw3]; exact (Keeps.refl NoB w2).alloc _
    have hc3 : w3.heap[w2.heap.size]? = some (.cells (bytesV (nmF i)).toArray 5 (0, 0)) := by rw [hw3, chr2_bytes hi80]; exact heap_alloc_same _ _
    clear hw3
    refine wr_bytes2str (n := 2) (l := nmF i) rfl rfl (slR_blk hc3 rfl) ?_
    refine wr_buildSlice (vs := [S (nmF i)]) rfl rfl (by intro v hv; simp at hv; subst hv; rfl) rfl (by decide) (by decide) (by decide) ?_
    have hk4 : Keeps NoB w2 (w3.alloc (.cells (List.flatMap (fun v : Value => v.cells.toList) [S (nmF i)]).toArray 9)) := hk3.alloc _
    have ho4 := own_keep ho hk4 (fun _ _ h => h)
    refine wr_append (base := w.heap.size) (v := v) (n := i) (m := 1) (news := [S (nmF i)]) rfl rfl ho4 rfl (heap_alloc_same _ _) rfl (by intro u hu; simp at hu; subst hu; rfl) rfl (by decide) (by omega) (by omega) (Nat.le_trans hk02.size hk4.size) ?_
    intro v5 w5 ho5 hk5 _
    have hk05 : Keeps NoB w w5 := (hk02.trans hk4).trans' hk5 (fun q hq e => by have := V.F.own_geF ho4 e; omega)
    (repeat first | (apply wr_move; exact rfl; with_reducible (conv => enter [6, 3]; whnf)) | (apply wr_assign; exact rfl; with_reducible (conv => enter [6, 3]; whnf)) | apply wr_end | apply wc_region | (apply wr_add; (iterate 3 exact rfl); exact w_fit (by dsimp only [kIn]; first | done | omega)) | (apply wr_nil; try simp only [thenE, inBlockE, bodyQ]))
    exact ⟨(i + 1, v5), by dsimp only; omega, ⟨by trivial, hlt, by
      have : SL (lst (i + 1)) = SL (lst i) ++ [S (nmF i)] := by simp [SL, lst, List.range_succ]
      rw [this]
      exact ho5, hk05⟩, rfl, rfl, rfl, rfl, rfl, trivial⟩
  have hik : i = k := by omega
  subst hik
  have hz1 := hk02.size
  (repeat first | (apply wr_move; exact rfl; with_reducible (conv => enter [6, 3]; whnf)) | apply wr_end | apply wc_seq | apply wc_region | (apply wr_cmp; (iterate 3 exact rfl); exact cmpF (by dsimp only [cmpN]; first | done | omega)) | (apply wc_false; exact rfl) | (apply wc_exit; try simp only [thenE, inBlockE, bodyQ, ↓reduceIte, Nat.reduceEqDiff]))
  refine wr_call (vs := [.bool delta]) rfl (newCl_ca delta w2) rfl ?_
  rintro cv w3 ⟨rfl, hk3⟩
  have hk03 := hk02.trans hk3
  (repeat first | (apply wr_move; exact rfl; with_reducible (conv => enter [6, 3]; whnf)))
  refine wr_call (vs := [v]) rfl (ofO_ca (lst i) v w3 (by have := (SlR.of_own ho).keep hk3 (fun _ _ h => h); rw [lst_len]; exact this) (by rw [lst_len]; omega) (fun x hx => by have := nameOk_le ((lst_fine hk80).2 x hx); omega)) rfl ?_
  rintro sv w4 ⟨hsv, hk4⟩
  rw [lstO hk80] at hsv
  have hk04 := hk03.trans hk4
  refine wr_call (vs := [CliV (newC delta), .int .i64 1, sv, nilV]) rfl (ask_cb (newC_at w4 delta) (hE.keep hk04) 1 hsv.toR (lst_fine hk80) (by rw [lst_len]; omega) (hv := []) (by decide) (slR_nilH _)) rfl ?_
  rintro av w5 ⟨hR, hk5⟩
  have hk05 := hk04.trans hk5
  have hz5 := hk05.size
  by_cases hfit : i ≤ 64
  · rcases hR with ⟨e, he, _⟩ | ⟨_, hR⟩
    · rw [askE_full, if_pos hfit] at he; cases he
    obtain ⟨nv, sub, uns, hav, rfl, hnv, ⟨ls, hls, hsub⟩, ⟨lu, hlu, huns⟩, ⟨lh, hlh, hhav⟩⟩ := hR
    have hls' : ls = lst i := by
      rw [hls]
      cases delta with
      | true =>
        show listP (lessP (false, lst i) (false, [])) = _
        rw [less_none]; rfl
      | false => rfl
    have hlu' : lu.length = 0 := by
      rw [hlu]
      cases delta with
      | true => show (listP (lessP (false, []) (false, lst i))).length = 0; simp [lessP, listP, keepF_nil]
      | false => rfl
    have hlh' : lh = [] := by
      rw [hlh]
      cases delta with
      | true => show hadL zeroT (false, lst i) [] = []; simp [hadL]
      | false => rfl
    have hlu2 : lu = [] := List.length_eq_zero_iff.1 hlu'
    subst hlh' hls' hlu2
    rw [lst_len] at hsub
    obtain ⟨c1, hc1⟩ : ∃ c, c = askC (newC delta) 1 (false, lst i) nv := ⟨_, rfl⟩
    rw [← hc1]
    have hO5 : CliO w5 w.heap.size c1 := by rw [hc1]; exact askC_O (newC_O w5 _ delta) 1 (own_down hnv hk04.size) (by rw [lst_len]; omega) (lst_fine hk80)
    have ht1 : topicOf c1 1 = (((false, lst i), nv), true, 0) := by rw [hc1, topicOf_ask (by simp [newC]) (by decide), topicOf_new]; rfl
    have hl1 := hO5.len
    clear hc1
    obtain ⟨nn, hnn⟩ : ∃ n : Nat, n = (if (newC delta).1 = true then 0 else (topicOf (newC delta) 1).2.2) := ⟨_, rfl⟩
    have hnn0 : nn ≤ 18446744073709551615 := by rw [hnn, topicOf_new]; split <;> decide
    rw [← hnn, show (newC delta).1 = delta from rfl]
    clear hnn
    apply wr_move; exact rfl; with_reducible (conv => enter [6, 3]; whnf)
    apply wr_extract; (iterate 3 exact rfl); with_reducible (conv => enter [6, 3]; whnf)
    apply wr_extract; (iterate 3 exact rfl); with_reducible (conv => enter [6, 3]; whnf)
    apply wr_extract; (iterate 3 exact rfl); with_reducible (conv => enter [6, 3]; whnf)
    apply wr_alloc
    focus exact rfl
    refine wr_name ?_
    intro wxa hwwxa
    obtain ⟨bwxa, hbwxa⟩ : ∃ b, b = (w5).heap.size := ⟨_, rfl⟩
    have hkwxa : Keeps NoB w5 wxa := by rw [hwwxa]; exact (Keeps.refl NoB w5).alloc _
    have hcwxa : (wxa).heap[bwxa]? = some (.cells (GCl (newC false)).toArray 32 (0, 0)) := by rw [hwwxa, hbwxa]; exact heap_alloc_same _ _
    rw [← hbwxa]
    clear hwwxa
    apply wr_alloc
    focus exact rfl
    refine wr_name ?_
    intro wxb hwwxb
    obtain ⟨bwxb, hbwxb⟩ : ∃ b, b = (wxa).heap.size := ⟨_, rfl⟩
    have hkwxb : Keeps NoB wxa wxb := by rw [hwwxb]; exact (Keeps.refl NoB wxa).alloc _
    have hcwxb : (wxb).heap[bwxb]? = some (.cells (zeroRq).toArray 42 (0, 0)) := by rw [hwwxb, hbwxb]; exact heap_alloc_same _ _
    rw [← hbwxb]
    clear hwwxb
    have hcawx := hkwxb.heap hcwxa (fun h => h)
    have hlrwx := lt_of_heap hcwxa
    refine wr_storeAll (cs := GCl (c1)) rfl rfl rfl (GCl_one hO5.at) hcawx (GCl_len hl1) (rfl) ?_
    refine wr_name ?_
    intro wxc hwwxc
    have hkwxc : Keeps (· = bwxa) wxb wxc := by rw [hwwxc]; exact (Keeps.refl _ wxb).put _ (fun _ => rfl)
    have hcwxc : (wxc).heap[bwxa]? = some (.cells (GCl (c1)).toArray 32 (0, 0)) := by rw [hwwxc]; exact World.putObj_heap_same (lt_of_heap hcawx)
    clear hwwxc
    have hcbwx := hkwxc.heap hcwxb (fun e => by omega)
    refine wr_storeAll (cs := GRq 1 delta nn sub uns hav []) rfl rfl rfl (GRq_one (own_one hsub) (own_one huns) (own_one hhav)) hcbwx (rfl) (rfl) ?_
    refine wr_name ?_
    intro wxd hwwxd
    have hkwxd : Keeps (· = bwxb) wxc wxd := by rw [hwwxd]; exact (Keeps.refl _ wxc).put _ (fun _ => rfl)
    have hcwxd : (wxd).heap[bwxb]? = some (.cells (GRq 1 delta nn sub uns hav []).toArray 42 (0, 0)) := by rw [hwwxd]; exact World.putObj_heap_same (lt_of_heap hcbwx)
    clear hwwxd
    have hccwx := hkwxd.heap hcwxc (fun e => by omega)
    have hkkwx : Keeps NoB w5 wxd := ((hkwxa.trans hkwxb).trans' hkwxc (fun i hi e => by omega)).trans' hkwxd (fun i hi e => by omega)
    have hk06 := hk05.trans hkkwx
    have hO6 := hO5.keep hkkwx
    have hsub6 := own_keep hsub hkkwx (fun _ _ h => h)
    have huns6 := own_keep huns hkkwx (fun _ _ h => h)
    have hhav6 := own_keep hhav hkkwx (fun _ _ h => h)
    (repeat first | (apply wr_assign; exact rfl; with_reducible (conv => enter [6, 3]; whnf)) | apply wr_end | apply wc_seq | apply wc_region)
    refine wr_loadAll (cs := GCl c1) rfl rfl rfl hccwx (GCl_len hl1) ?_
    skip
    refine wr_call (vs := [CliV c1, .int .i64 1, S []]) rfl (answer_no hO6.at (hE.keep hk06) (by decide) (by unfold answerE; rw [ht1]; rfl : answerE c1 1 [] = some 5)) rfl ?_
    rintro v w7 ⟨rfl, hk7⟩
    (repeat first | (apply wr_move; exact rfl; with_reducible (conv => enter [6, 3]; whnf)) | (apply wr_alloc; exact rfl) | (apply wr_extract; (iterate 3 exact rfl); with_reducible (conv => enter [6, 3]; whnf)))
    refine wr_storeAll (cs := zeroRq) rfl rfl rfl (zeroRq_one) (heap_alloc_same _ _) rfl rfl ?_
    refine wr_name ?_
    intro w8 hww8
    obtain ⟨bw8, hbw8⟩ : ∃ b, b = (w7).heap.size := ⟨_, rfl⟩
    have hkw8 : Keeps NoB w7 w8 := by rw [hww8]; exact ((Keeps.refl NoB w7).alloc _).put _ (fun h => by omega)
    have hcw8 : (w8).heap[bw8]? = some (.cells (zeroRq).toArray 42 (0, 0)) := by rw [hww8, hbw8]; exact World.putObj_heap_same (by simp)
    rw [← hbw8]
    clear hww8
    have hk68 := hk7.trans hkw8
    have hr8 := hk68.heap hcwxd (fun h => h)
    have hsub8 := own_keep hsub6 hk68 (fun _ _ h => h)
    have huns8 := own_keep huns6 hk68 (fun _ _ h => h)
    have hhav8 := own_keep hhav6 hk68 (fun _ _ h => h)
    have hsubR := SlR.of_own hsub8
    obtain ⟨sa, sc, rfl⟩ := own_sl hsub8
    (repeat first | (apply wr_move; exact rfl; with_reducible (conv => enter [6, 3]; whnf)) | (apply wr_assign; exact rfl; with_reducible (conv => enter [6, 3]; whnf)) | apply wr_end | apply wc_seq | apply wc_region | (apply wr_cmp; (iterate 3 exact rfl); exact cmpT (by dsimp only [cmpP]; first | done | omega)))
    refine wr_boolEq (c := true) rfl rfl rfl rfl ?_
    (repeat first | (apply wr_move; exact rfl; with_reducible (conv => enter [6, 3]; whnf)) | (apply wr_fieldAddr; iterate 2 exact rfl) | (apply wr_not; iterate 2 exact rfl) | (apply wr_len_slice; iterate 2 exact rfl) | (apply wr_load; (iterate 3 exact rfl); (focus repeat first | with_reducible assumption | exact heap_alloc_same _ _ | exact World.putObj_heap_same (by first | omega | (simp only [World.size_alloc, World.putObj_size, ne_eq]; omega)) | ((first | refine hAl ?_ ?_ | refine hPu ?_ ?_); focus first | omega | (simp only [World.size_alloc, World.putObj_size, ne_eq]; omega))); exact rfl; conv => enter [6, 3]; whnf) | (apply wr_cmp; (iterate 3 exact rfl); exact cmpT (by dsimp only [cmpP]; first | done | omega)) | (apply wr_pick (t := true); (iterate 2 exact rfl); with_reducible (conv => enter [6, 3]; whnf)) | (apply wr_skip; exact rfl))
    refine wr_loadAll (cs := GRq 1 delta nn (.slice sa i sc) uns hav []) rfl rfl rfl hr8 rfl ?_
    skip
    refine wr_call (vs := [.agg (GRq 1 delta nn (.slice sa i sc) uns hav []).toArray]) rfl (rightReq_ok (ls := lst i) (lu := []) (lh := []) (by decide) (by rw [lst_len]; exact hsubR) (SlR.of_own huns8) (SlR.of_own hhav8) (by rw [lst_len]; omega) (by decide) (by decide) (fun x hx => starB_list (lst_fine hk80) x hx) (by intro x hx; cases hx) (by intro x hx; cases hx) hnn0 (fun _ => ⟨rfl, rfl⟩)) rfl ?_
    rintro v w9 ⟨rfl, hk9⟩
    (repeat first | (apply wr_move; exact rfl; with_reducible (conv => enter [6, 3]; whnf)) | (apply wr_assign; exact rfl; with_reducible (conv => enter [6, 3]; whnf)) | apply wr_end | (apply wr_cmp; (iterate 3 exact rfl); exact cmpT (by dsimp only [cmpP]; first | done | omega)) | (apply wr_pick (t := true); (iterate 2 exact rfl); with_reducible (conv => enter [6, 3]; whnf)) | (apply wr_pick (t := false); (iterate 2 exact rfl); with_reducible (conv => enter [6, 3]; whnf)) | (apply wc_ret; try simp only [thenE, inBlockE, bodyQ]))
    exact leave1 (v := .bool true) rfl rfl ⟨rfl, (hk06.trans hk68).trans hk9⟩
  · rcases hR with ⟨e, he, rfl⟩ | ⟨he, _⟩
    rotate_left
    · rw [askE_full, if_neg hfit] at he; cases he
    rw [askE_full, if_neg hfit] at he
    injection he with he
    subst he
    apply wr_move; exact rfl; with_reducible (conv => enter [6, 3]; whnf)
    apply wr_extract; (iterate 3 exact rfl); with_reducible (conv => enter [6, 3]; whnf)
    apply wr_extract; (iterate 3 exact rfl); with_reducible (conv => enter [6, 3]; whnf)
    apply wr_extract; (iterate 3 exact rfl); with_reducible (conv => enter [6, 3]; whnf)
    apply wr_alloc
    focus exact rfl
    refine wr_name ?_
    intro wxa hwwxa
    obtain ⟨bwxa, hbwxa⟩ : ∃ b, b = (w5).heap.size := ⟨_, rfl⟩
    have hkwxa : Keeps NoB w5 wxa := by rw [hwwxa]; exact (Keeps.refl NoB w5).alloc _
    have hcwxa : (wxa).heap[bwxa]? = some (.cells (GCl (newC false)).toArray 32 (0, 0)) := by rw [hwwxa, hbwxa]; exact heap_alloc_same _ _
    rw [← hbwxa]
    clear hwwxa
    apply wr_alloc
    focus exact rfl
    refine wr_name ?_
    intro wxb hwwxb
    obtain ⟨bwxb, hbwxb⟩ : ∃ b, b = (wxa).heap.size := ⟨_, rfl⟩
    have hkwxb : Keeps NoB wxa wxb := by rw [hwwxb]; exact (Keeps.refl NoB wxa).alloc _
    have hcwxb : (wxb).heap[bwxb]? = some (.cells (zeroRq).toArray 42 (0, 0)) := by rw [hwwxb, hbwxb]; exact heap_alloc_same _ _
    rw [← hbwxb]
    clear hwwxb
    have hcawx := hkwxb.heap hcwxa (fun h => h)
    have hlrwx := lt_of_heap hcwxa
    refine wr_storeAll (cs := GCl (newC delta)) rfl rfl rfl (GCl_one (newC_at w5 delta)) hcawx (rfl) (rfl) ?_
    refine wr_name ?_
    intro wxc hwwxc
    have hkwxc : Keeps (· = bwxa) wxb wxc := by rw [hwwxc]; exact (Keeps.refl _ wxb).put _ (fun _ => rfl)
    have hcwxc : (wxc).heap[bwxa]? = some (.cells (GCl (newC delta)).toArray 32 (0, 0)) := by rw [hwwxc]; exact World.putObj_heap_same (lt_of_heap hcawx)
    clear hwwxc
    have hcbwx := hkwxc.heap hcwxb (fun e => by omega)
    refine wr_storeAll (cs := zeroRq) rfl rfl rfl (zeroRq_one) hcbwx (rfl) (rfl) ?_
    refine wr_name ?_
    intro wxd hwwxd
    have hkwxd : Keeps (· = bwxb) wxc wxd := by rw [hwwxd]; exact (Keeps.refl _ wxc).put _ (fun _ => rfl)
    have hcwxd : (wxd).heap[bwxb]? = some (.cells (zeroRq).toArray 42 (0, 0)) := by rw [hwwxd]; exact World.putObj_heap_same (lt_of_heap hcbwx)
    clear hwwxd
    have hccwx := hkwxd.heap hcwxc (fun e => by omega)
    have hkkwx : Keeps NoB w5 wxd := ((hkwxa.trans hkwxb).trans' hkwxc (fun i hi e => by omega)).trans' hkwxd (fun i hi e => by omega)
    have hk06 := hk05.trans hkkwx
    (repeat first | (apply wr_assign; exact rfl; with_reducible (conv => enter [6, 3]; whnf)) | apply wr_end | apply wc_seq | apply wc_region)
    refine wr_loadAll (cs := GCl (newC delta)) rfl rfl rfl hccwx rfl ?_
    skip
    refine wr_call (vs := [CliV (newC delta), .int .i64 1, S []]) rfl (answer_no (newC_at _ delta) (hE.keep hk06) (by decide) (by unfold answerE; rw [topicOf_new]; rfl : answerE (newC delta) 1 [] = some 5)) rfl ?_
    rintro v w7 ⟨rfl, hk7⟩
    (repeat first | (apply wr_move; exact rfl; with_reducible (conv => enter [6, 3]; whnf)) | (apply wr_alloc; exact rfl) | (apply wr_extract; (iterate 3 exact rfl); with_reducible (conv => enter [6, 3]; whnf)))
    refine wr_storeAll (cs := zeroRq) rfl rfl rfl (zeroRq_one) (heap_alloc_same _ _) rfl rfl ?_
    refine wr_name ?_
    intro w8 hww8
    obtain ⟨bw8, hbw8⟩ : ∃ b, b = (w7).heap.size := ⟨_, rfl⟩
    have hkw8 : Keeps NoB w7 w8 := by rw [hww8]; exact ((Keeps.refl NoB w7).alloc _).put _ (fun h => by omega)
    have hcw8 : (w8).heap[bw8]? = some (.cells (zeroRq).toArray 42 (0, 0)) := by rw [hww8, hbw8]; exact World.putObj_heap_same (by simp)
    rw [← hbw8]
    clear hww8
    have hk68 := hk7.trans hkw8
    have hr8 := hk68.heap hcwxd (fun h => h)
    have hc8 := hk68.heap hccwx (fun h => h)
    (repeat first | (apply wr_move; exact rfl; with_reducible (conv => enter [6, 3]; whnf)) | (apply wr_assign; exact rfl; with_reducible (conv => enter [6, 3]; whnf)) | apply wr_end | apply wc_seq | apply wc_region | (apply wr_cmp; (iterate 3 exact rfl); exact cmpF (by dsimp only [cmpN]; first | done | omega)))
    refine wr_boolEq (c := true) rfl rfl rfl rfl ?_
    (repeat first | (apply wr_move; exact rfl; with_reducible (conv => enter [6, 3]; whnf)) | (apply wr_fieldAddr; iterate 2 exact rfl) | (apply wr_load; (iterate 3 exact rfl); (focus repeat first | with_reducible assumption | exact heap_alloc_same _ _ | exact World.putObj_heap_same (by first | omega | (simp only [World.size_alloc, World.putObj_size, ne_eq]; omega)) | ((first | refine hAl ?_ ?_ | refine hPu ?_ ?_); focus first | omega | (simp only [World.size_alloc, World.putObj_size, ne_eq]; omega))); exact rfl; conv => enter [6, 3]; whnf) | (apply wr_cmp; (iterate 3 exact rfl); exact cmpT (by dsimp only [cmpP]; first | done | omega)) | (apply wr_pick (t := true); (iterate 2 exact rfl); with_reducible (conv => enter [6, 3]; whnf)))
    refine wr_indexArr (i := 1) rfl rfl rfl (by decide) ?_
    (repeat first | (apply wr_move; exact rfl; with_reducible (conv => enter [6, 3]; whnf)) | (apply wr_assign; exact rfl; with_reducible (conv => enter [6, 3]; whnf)) | apply wr_end | (apply wr_fieldAddr; iterate 2 exact rfl) | (apply wr_not; iterate 2 exact rfl) | (apply wr_load; (iterate 3 exact rfl); (focus repeat first | with_reducible assumption | exact heap_alloc_same _ _ | exact World.putObj_heap_same (by first | omega | (simp only [World.size_alloc, World.putObj_size, ne_eq]; omega)) | ((first | refine hAl ?_ ?_ | refine hPu ?_ ?_); focus first | omega | (simp only [World.size_alloc, World.putObj_size, ne_eq]; omega))); exact rfl; conv => enter [6, 3]; whnf) | (apply wr_cmp; (iterate 3 exact rfl); exact cmpT (by dsimp only [cmpP]; first | done | omega)) | (apply wr_pick (t := true); (iterate 2 exact rfl); with_reducible (conv => enter [6, 3]; whnf)) | (apply wr_pick (t := false); (iterate 2 exact rfl); with_reducible (conv => enter [6, 3]; whnf)) | (apply wc_ret; try simp only [thenE, inBlockE, bodyQ]) | (apply wr_skip; exact rfl))
    exact leave1 (v := .bool true) rfl rfl ⟨rfl, hk06.trans hk68⟩
end Go.Proofs.YtahlhldkcekbfaaGreatDoor
