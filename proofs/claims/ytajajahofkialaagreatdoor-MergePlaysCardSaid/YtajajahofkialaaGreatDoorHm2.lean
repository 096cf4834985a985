/- merge: what laws share. -/
import Derived.Test.YtajajahofkialaaGreatDoorHk2
namespace Go.Proofs.YtajajahofkialaaGreatDoor
open Go Go.V Go.RowKit
set_option linter.unusedVariables false
set_option linter.unusedSimpArgs false

theorem SetR.keepM {D : Nat → Prop} {w w' : World} {s : PS} {v : Value} (h : SetR w s v) (k : Keeps D w w') (hD : ∀ b, D b → ∀ c t r, w.heap[b]? ≠ some (.cells c t r)) : SetR w' s v := by
  obtain ⟨nv, rfl, hl, a, cp, rfl, hcp, h⟩ := h
  refine ⟨_, rfl, hl, a, cp, rfl, hcp, ?_⟩
  rcases h with h | ⟨b, o, cur, e, fr', rfl, hb, hr⟩
  · exact .inl h
  · exact .inr ⟨b, o, cur, e, fr', rfl, k.heap hb (fun e => hD _ e _ _ _ hb), hr⟩
theorem own_keepM {D : Nat → Prop} {w w' : World} {base sz n : Nat} {T : TypeId} {v : Value} {xs : List Value} (h : w.ownsRow base T sz v n xs) (k : Keeps D w w') (hD : ∀ b, D b → ∀ c t r, w.heap[b]? ≠ some (.cells c t r)) : w'.ownsRow base T sz v n xs := own_keep h k fun q hq e => by
  rcases h.2 with ⟨rfl, _⟩ | ⟨g, cap, cur, rfl, _, hg, _⟩
  · cases hq
  · simp [Value.ownBlock] at hq
    subst hq
    exact hD _ e _ _ _ hg
theorem heap_keepM {D : Nat → Prop} {w w' : World} {b : Nat} {c : Array Value} {T : TypeId} {r : Nat × Nat} (h : w.heap[b]? = some (.cells c T r)) (k : Keeps D w w') (hD : ∀ b, D b → ∀ c t r, w.heap[b]? ≠ some (.cells c t r)) : w'.heap[b]? = some (.cells c T r) := k.heap h (fun e => hD _ e _ _ _ h)
/-! ### What all want, set by set -/
theorem mem_allL {Wn : WF} {k : Nat} {x : TT} : x ∈ allL Wn k ↔ ∃ i : Nat, i < 33 ∧ x ∈ listP (Wn ((i : Int), (k : Int))) := by
  unfold allL
  rw [List.mem_flatMap]
  constructor
  · rintro ⟨i, hi, h⟩
    exact ⟨i, List.mem_range.1 hi, h⟩
  · rintro ⟨i, hi, h⟩
    exact ⟨i, List.mem_range.2 hi, h⟩
theorem unionK_eq {Wn : WF} {k : Nat} {U : PS} (hU : Fine U) (h : ∀ x, x ∈ allL Wn k ↔ x ∈ listP U) : unionK Wn k = U := (ofP_congr h).trans (ofP_listP hU)
theorem unionK_no (k : Nat) : unionK noW k = noneP := unionK_eq (nil_fine false) fun x => by
  rw [mem_allL]
  constructor
  · rintro ⟨i, _, h⟩
    exact absurd h (by simp [noneP, listP])
  · intro h
    exact absurd h (by simp [noneP, listP])
theorem mem_listU {Wn : WF} (hf : ∀ t, Fine (Wn t)) {k : Nat} (x : TT) : x ∈ listP (unionK Wn k) ↔ x ∈ allL Wn k := by
  unfold unionK
  rw [mem_listP, mem_ofP]
  show (decide (star ∈ allL Wn k) = true ∧ x = star) ∨ _ ↔ _
  rw [decide_eq_true_eq]
  constructor
  · rintro (⟨h, rfl⟩ | h)
    · exact h
    · exact h.1
  · intro h
    obtain ⟨i, _, hi⟩ := mem_allL.1 h
    rcases (mem_listP _ x).1 hi with ⟨_, rfl⟩ | h2
    · exact .inl ⟨h, rfl⟩
    · exact .inr ⟨h, (hf _).2 x h2⟩
/-- Somebody who wanted nothing wants something. -/
theorem unionK_add {Wn : WF} (hf : ∀ t, Fine (Wn t)) {t : TY} (hd : inDom t) (hn : Wn t = noneP) {s : PS} (hs : Fine s) {k : Nat} (hk : (k : Int) = t.2) : unionK (updW Wn t s) k = unionP [unionK Wn k, s] := by
  refine unionK_eq (union_fine2 (unionK_fine _ _) hs) fun x => ?_
  obtain ⟨n, hn1⟩ := Int.eq_ofNat_of_zero_le (show 0 ≤ t.1 by have := hd.1; omega)
  have htn : ((n : Int), (k : Int)) = t := Prod.ext hn1.symm hk
  have hl : x ∈ listP (unionP [unionK Wn k, s]) ↔ x ∈ listP (unionK Wn k) ∨ x ∈ listP s := by
    rw [mem_listP, mem_listP, mem_listP, mem_union2, union_all2, Bool.or_eq_true]
    constructor
    · rintro (⟨h1 | h1, h2⟩ | h1 | h1)
      · exact .inl (.inl ⟨h1, h2⟩)
      · exact .inr (.inl ⟨h1, h2⟩)
      · exact .inl (.inr h1)
      · exact .inr (.inr h1)
    · rintro ((⟨h1, h2⟩ | h1) | ⟨h1, h2⟩ | h1)
      · exact .inl ⟨.inl h1, h2⟩
      · exact .inr (.inl h1)
      · exact .inl ⟨.inr h1, h2⟩
      · exact .inr (.inr h1)
  rw [hl, mem_listU hf, mem_allL, mem_allL]
  constructor
  · rintro ⟨i, hi, h⟩
    unfold updW at h
    by_cases e : ((i : Int), (k : Int)) = t
    · rw [if_pos e] at h; exact .inr h
    · rw [if_neg e] at h; exact .inl ⟨i, hi, h⟩
  · rintro (⟨i, hi, h⟩ | h)
    · refine ⟨i, hi, ?_⟩
      unfold updW
      by_cases e : ((i : Int), (k : Int)) = t
      · rw [e, hn] at h
        exact absurd h (by simp [noneP, listP])
      · rw [if_neg e]; exact h
    · refine ⟨n, by have := hd.2.1; omega, ?_⟩
      unfold updW
      rw [if_pos htn]; exact h
theorem updW_fine {Wn : WF} (hf : ∀ t, Fine (Wn t)) (t : TY) {s : PS} (hs : Fine s) : ∀ u, Fine (updW Wn t s u) := fun u => by
  unfold updW
  split
  · exact hs
  · exact hf u
theorem noW_fine : ∀ t, Fine (noW t) := fun _ => nil_fine false
theorem updW_same {Wn : WF} {t : TY} {s : PS} (h : Wn t = s) : updW Wn t s = Wn := by
  funext u
  unfold updW
  split
  · rename_i e; rw [e, h]
  · rfl
theorem updW_get (Wn : WF) (t : TY) (s : PS) : updW Wn t s t = s := by unfold updW; rw [if_pos rfl]
theorem updW_ne {Wn : WF} {t u : TY} (s : PS) (h : u ≠ t) : updW Wn t s u = Wn u := by unfold updW; rw [if_neg h]
theorem updW_comm {Wn : WF} {t u : TY} (s r : PS) (h : t ≠ u) : updW (updW Wn t s) u r = updW (updW Wn u r) t s := by
  funext x
  unfold updW
  by_cases h1 : x = t
  · subst h1
    rw [if_neg h, if_pos rfl, if_pos rfl]
  · by_cases h2 : x = u
    · subst h2
      rw [if_pos rfl, if_neg h1, if_pos rfl]
    · rw [if_neg h2, if_neg h1, if_neg h1, if_neg h2]
theorem updW_upd (Wn : WF) (t : TY) (s r : PS) : updW (updW Wn t s) t r = updW Wn t r := by
  funext x
  unfold updW
  split <;> rfl
theorem fits_of {Wn : WF} {t : TY} {k : Nat} {s : PS} (h1 : s.2.length ≤ 63) (h2 : (unionK (updW Wn t s) k).2.length ≤ 63) : fitsS Wn t k s = true := by
  have := listP_le s
  have := listP_le (unionK (updW Wn t s) k)
  unfold fitsS
  rw [decide_eq_true (by omega), decide_eq_true (by omega)]
  rfl
theorem union2_le (a b : PS) : (unionP [a, b]).2.length ≤ a.2.length + b.2.length := by
  have := unionP_le [a, b]
  simpa using this
theorem sameP_self (W : PS) : sameP W W = true := by unfold sameP; simp
theorem unionR_ca {w : World} {n0 ab wb : Nat} {cb : List Nat} {Wn : WF} (h : MgAt w n0 ab wb cb Wn) (k : Nat) (hk1 : 1 ≤ k) (hk5 : k ≤ 5) {U : PS} (hU : unionK Wn k = U) :
    Ca Tryz.prog 18 #[.pointer (some ⟨ab, 0, none⟩), .int .i64 (k : Int)] w fun v w' => SetR w' U v ∧ Keeps NoB w w' :=
  (unionM_ca h k hk1 hk5).mono fun v w' h => ⟨by rw [← hU]; exact h.1.toR, h.2⟩
/-- Set, where it fits. -/
theorem setM_ok {w : World} {ab wb : Nat} {cb : List Nat} {Wn : WF} (h : MgAt w 0 ab wb cb Wn) {p q : Addr} (hg : GloM w p q) {id : Int} {k : Nat} (ht : inDom (id, (k : Int))) {s : PS} {sv : Value} (hs : SetR w s sv) (hsf : Fine s) (hsl : s.2.length ≤ 90000) (hfit : fitsS Wn (id, (k : Int)) k s = true) :
    Ca Tryz.prog 13 #[.pointer (some ⟨ab, 0, none⟩), .int .i64 id, .int .i64 (k : Int), sv] w fun v w' => (MgAt w' 0 ab wb cb (updW Wn (id, (k : Int)) s) ∧ ∃ mn ln, v = .tuple #[SetV (lessP (unionK (updW Wn (id, (k : Int)) s) k) (unionK Wn k)).1 mn, SetV (lessP (unionK Wn k) (unionK (updW Wn (id, (k : Int)) s) k)).1 ln, .int .i64 0] ∧
      SetR w' (lessP (unionK (updW Wn (id, (k : Int)) s) k) (unionK Wn k)) (SetV (lessP (unionK (updW Wn (id, (k : Int)) s) k) (unionK Wn k)).1 mn) ∧ SetR w' (lessP (unionK Wn k) (unionK (updW Wn (id, (k : Int)) s) k)) (SetV (lessP (unionK Wn k) (unionK (updW Wn (id, (k : Int)) s) k)).1 ln)) ∧ Keeps (mD wb cb) w w' := by
  refine (setM_ca h hg (id, (k : Int)) hs hsf hsl).mono ?_
  rintro v w' ⟨hR, hk⟩
  refine ⟨?_, hk⟩
  rcases hR with ⟨j, hj, _, _, hM, mv, lv, e, ⟨mn, rfl, hm⟩, ⟨ln, rfl, hl⟩⟩ | ⟨j, hj, _, hf, _⟩ | ⟨hn, _⟩
  · have hj : j = k := by have hj : (j : Int) = (k : Int) := hj; omega
    subst hj
    exact ⟨hM, mn, ln, e, ⟨mn, rfl, hm⟩, ⟨ln, rfl, hl⟩⟩
  · have hj : j = k := by have hj : (j : Int) = (k : Int) := hj; omega
    subst hj
    rw [hfit] at hf; cases hf
  · exact absurd ht hn
end Go.Proofs.YtajajahofkialaaGreatDoor

namespace Go.Proofs.YtajajahofkialaaGreatDoor
open Go Go.V Go.RowKit
set_option linter.unusedVariables false
set_option linter.unusedSimpArgs false

/- The head: $1 after New. -/
/- A set of a few: $1 slice, $2 bytes, $3 world, $4 stem, $5 SlR, $6 bytes small, $7 how many. -/
abbrev sA : PS := (false, [[97], [98]])
abbrev sB : PS := (true, [[98]])
theorem sA_fine : Fine sA := ⟨by unfold Rises; decide, by decide⟩
theorem sB_fine : Fine sB := ⟨by unfold Rises; decide, by decide⟩
theorem sA_of : ofP [[97], [98]] = sA := by
  have := ofP_listP sA_fine
  exact this
theorem sB_of : ofP [[98], [42]] = sB := by
  have := ofP_listP sB_fine
  refine (ofP_congr fun x => ?_).trans this
  show x ∈ [[98], [42]] ↔ x ∈ [[42], [98]]
  simp [or_comm]
theorem union_none1 {s : PS} (h : Fine s) : unionP [noneP, s] = s := by
  refine fine_ext (union_fine2 (nil_fine false) h) h ?_ fun x => ?_
  · rw [union_all2]; rfl
  · rw [mem_union2]; simp [noneP]
theorem less_noneR (s : PS) : lessP s noneP = s := by
  unfold lessP keepF noneP
  refine Prod.ext (by simp) ?_
  exact List.filter_eq_self.2 fun a _ => rfl
theorem SetR.row {w : World} {s : PS} {a : Bool} {v : Value} (h : SetR w s (SetV a v)) : SlR w 1 v s.2.length (SL s.2) := by
  obtain ⟨nv, e, hs⟩ := h
  have : v = nv := by
    injection e with e
    injection e with e
    simp at e
    exact e.2
  rw [this]; exact hs
theorem less_noneL (s : PS) : lessP noneP s = noneP := by
  unfold lessP keepF noneP
  simp
def eW1 : WF := updW noW (2, 1) sA
def eW2 : WF := updW eW1 (3, 1) sB
theorem eW1_fine : ∀ t, Fine (eW1 t) := updW_fine noW_fine _ sA_fine
theorem eU1 : unionK eW1 1 = sA := by
  unfold eW1
  rw [unionK_add noW_fine (by decide) rfl sA_fine rfl, unionK_no, union_none1 sA_fine]
abbrev eU : PS := (true, [[97], [98]])
theorem eU_fine : Fine eU := ⟨by unfold Rises; decide, by decide⟩
theorem eU2 : unionK eW2 1 = eU := by
  unfold eW2
  rw [unionK_add eW1_fine (by decide) (by decide) sB_fine rfl, eU1]
  refine fine_ext (union_fine2 sA_fine sB_fine) eU_fine (union_all2 _ _) fun x => ?_
  rw [mem_union2]
  simp
theorem eCnt (x : TT) : cntW eW2 1 x = (if x ∈ listP sA then 1 else 0) + (if x ∈ listP sB then 1 else 0) := by
  unfold eW2
  rw [cntW_upd (by decide) sB rfl x]
  unfold eW1
  rw [cntW_upd (by decide) sA rfl x, cnt_no]
  simp [noneP, listP, updW]
theorem eKeys : ∃ m, keysL eW2 1 = [[42, 32, 49], m, [98, 32, 50]] := by
  unfold keysL
  rw [eU2]
  refine ⟨keyT eW2 1 [97], ?_⟩
  have h1 : keyT eW2 1 [42] = [42, 32, 49] := by
    unfold keyT
    rw [eCnt, if_neg (by decide), if_pos (by decide)]
    rw [show ((0 : Int) + 1).toNat = 1 from rfl, Lib.decDigits_one (by decide)]
    rfl
  have h2 : keyT eW2 1 [98] = [98, 32, 50] := by
    unfold keyT
    rw [eCnt, if_pos (by decide), if_pos (by decide)]
    rw [show ((1 : Int) + 1).toNat = 2 from rfl, Lib.decDigits_one (by decide)]
    rfl
  show [keyT eW2 1 [42], keyT eW2 1 [97], keyT eW2 1 [98]] = _
  rw [h1, h2]
theorem eWho : whoN eW2 1 [99] = 1 := by decide +kernel
theorem eNine (kk : Int) : eW2 (9, kk) = noneP := by
  unfold eW2 eW1
  rw [updW_ne _ (by intro e; have := congrArg Prod.fst e; simp at this), updW_ne _ (by intro e; have := congrArg Prod.fst e; simp at this)]
set_option maxRecDepth 100000 in
set_option maxHeartbeats 16000000 in
theorem examples_ca {w : World} {p q : Addr} (hg : GloM w p q) : Ca Tryz.prog 9 #[] w fun v w' => v = .bool true ∧ Keeps NoB w w' := by
  refine ca_of_body (args := []) Tryz.func9 rfl (by kernel_rfl) ?_
  (repeat first | (apply wr_assign; exact rfl; with_reducible (conv => enter [6, 3]; whnf)) | apply wr_end | apply wc_seq | apply wc_region)
  refine wr_call (vs := []) rfl (newM_ca w) rfl ?_
  rintro v w1 ⟨⟨ab, wb, cb, rfl, h1, hab, hwb, hcb⟩, hk1⟩
  have hmD : ∀ i, i < w.heap.size → ¬ mD wb cb i := fun i hi e => by
    rcases e with e | e
    · omega
    · have := hcb i e; omega
  have hg1 := hg.keep hk1
  have hz1 := hk1.size
  (repeat first | (apply wr_move; exact rfl; with_reducible (conv => enter [6, 3]; whnf)) | (apply wr_assign; exact rfl; with_reducible (conv => enter [6, 3]; whnf)) | apply wr_end | apply wc_seq | apply wc_region)
  refine wr_ptrNil rfl rfl ?_
  (repeat first | (apply wr_move; exact rfl; with_reducible (conv => enter [6, 3]; whnf)) | apply wr_end | apply wc_seq | apply wc_region | apply wc_skip | (apply wc_false; exact rfl))
  refine wr_build (ps := []) (cs := [.bool false, nilV]) rfl rfl rfl rfl ?_
  refine wr_call (vs := [.pointer (some ⟨ab, 0, none⟩), .int .i64 0, .int .i64 1, SetV false nilV]) rfl (setM_ca h1 hg1 (0, 1) (zset_R w1) (nil_fine false) (by decide)) rfl ?_
  rintro v w2 ⟨hR, hk2⟩
  rcases hR with ⟨_, _, hd, _⟩ | ⟨_, _, hd, _⟩ | ⟨_, h2, rfl⟩
  · exact absurd hd (by decide)
  · exact absurd hd (by decide)
  have hg2 := hg1.keepD hk2 (mD_nc h1)
  apply wr_move; exact rfl; with_reducible (conv => enter [6, 3]; whnf)
  apply wr_extract; (iterate 3 exact rfl); with_reducible (conv => enter [6, 3]; whnf)
  apply wr_extract; (iterate 3 exact rfl); with_reducible (conv => enter [6, 3]; whnf)
  apply wr_extract; (iterate 3 exact rfl); with_reducible (conv => enter [6, 3]; whnf)
  apply wr_alloc
  focus exact rfl
  refine wr_name ?_
  intro wxa hwwxa
  obtain ⟨bwxa, hbwxa⟩ : ∃ b, b = (w2).heap.size := ⟨_, rfl⟩
  have hkwxa : Keeps NoB w2 wxa := by rw [hwwxa]; exact (Keeps.refl NoB w2).alloc _
  have hcwxa : (wxa).heap[bwxa]? = some (.cells ([.bool false, nilV]).toArray 41 (0, 0)) := by rw [hwwxa, hbwxa]; exact heap_alloc_same _ _
  rw [← hbwxa]
  clear hwwxa
  apply wr_alloc
  focus exact rfl
  refine wr_name ?_
  intro wxb hwwxb
  obtain ⟨bwxb, hbwxb⟩ : ∃ b, b = (wxa).heap.size := ⟨_, rfl⟩
  have hkwxb : Keeps NoB wxa wxb := by rw [hwwxb]; exact (Keeps.refl NoB wxa).alloc _
  have hcwxb : (wxb).heap[bwxb]? = some (.cells ([.bool false, nilV]).toArray 41 (0, 0)) := by rw [hwwxb, hbwxb]; exact heap_alloc_same _ _
  rw [← hbwxb]
  clear hwwxb
  have hcawx := hkwxb.heap hcwxa (fun h => h)
  have hlrwx := lt_of_heap hcwxa
  refine wr_storeAll (cs := [.bool false, nilV]) rfl rfl rfl (zset_one) hcawx (rfl) (rfl) ?_
  refine wr_name ?_
  intro wxc hwwxc
  have hkwxc : Keeps (· = bwxa) wxb wxc := by rw [hwwxc]; exact (Keeps.refl _ wxb).put _ (fun _ => rfl)
  have hcwxc : (wxc).heap[bwxa]? = some (.cells ([.bool false, nilV]).toArray 41 (0, 0)) := by rw [hwwxc]; exact World.putObj_heap_same (lt_of_heap hcawx)
  clear hwwxc
  have hcbwx := hkwxc.heap hcwxb (fun e => by omega)
  refine wr_storeAll (cs := [.bool false, nilV]) rfl rfl rfl (zset_one) hcbwx (rfl) (rfl) ?_
  refine wr_name ?_
  intro wxd hwwxd
  have hkwxd : Keeps (· = bwxb) wxc wxd := by rw [hwwxd]; exact (Keeps.refl _ wxc).put _ (fun _ => rfl)
  have hcwxd : (wxd).heap[bwxb]? = some (.cells ([.bool false, nilV]).toArray 41 (0, 0)) := by rw [hwwxd]; exact World.putObj_heap_same (lt_of_heap hcbwx)
  clear hwwxd
  have hccwx := hkwxd.heap hcwxc (fun e => by omega)
  have hkkwx : Keeps NoB w2 wxd := ((hkwxa.trans hkwxb).trans' hkwxc (fun i hi e => by omega)).trans' hkwxd (fun i hi e => by omega)
  have h3 := h2.keepN hkkwx
  have hg3 := hg2.keep hkkwx
  have hK3 : Keeps NoB w wxd := (hk1.trans' hk2 (fun i hi e => hmD i hi e)).trans hkkwx
  (repeat first | (apply wr_move; exact rfl; with_reducible (conv => enter [6, 3]; whnf)) | (apply wr_assign; exact rfl; with_reducible (conv => enter [6, 3]; whnf)) | apply wr_end | apply wc_seq | apply wc_region)
  refine wr_buildSlice (vs := [S [97], S [98]]) rfl rfl (by intro v hv; simp at hv; rcases hv with rfl | rfl <;> rfl) rfl (by decide) (by decide) (by decide) ?_
  refine wr_name ?_
  intro w4 hw4
  have hk4 : Keeps NoB wxd w4 := by rw [hw4]; exact (Keeps.refl NoB wxd).alloc _
  have hc4 : w4.heap[wxd.heap.size]? = some (.cells (SL [[97], [98]]).toArray 9 (0, 0)) := by rw [hw4]; exact heap_alloc_same _ _
  clear hw4
  refine wr_call (vs := [.slice (some ⟨wxd.heap.size, 0, none⟩) 2 2]) rfl (ofO_ca [[97], [98]] _ w4 (slR_blk hc4 rfl) (by decide) (by decide)) rfl ?_
  rintro sv w5 ⟨hsv, hk5⟩
  rw [sA_of] at hsv
  have h5 := (h3.keepN hk4).keepN hk5
  have hg5 := (hg3.keep hk4).keep hk5
  have hK5 := (hK3.trans hk4).trans hk5
  refine wr_call (vs := [.pointer (some ⟨ab, 0, none⟩), .int .i64 2, .int .i64 1, sv]) rfl (setM_ok h5 hg5 (id := 2) (k := 1) (by decide) hsv.toR sA_fine (by decide) (fits_of (by decide) (by show (unionK eW1 1).2.length ≤ 63; rw [eU1]; decide))) rfl ?_
  rintro v w6 ⟨⟨h6, mn, ln, rfl, hmR, hlR⟩, hk6⟩
  have h6 : MgAt w6 0 ab wb cb eW1 := h6
  rw [show unionK (updW noW (2, ((1 : Nat) : Int)) sA) 1 = sA from eU1, unionK_no] at hmR hlR ⊢
  rw [less_noneR] at hmR ⊢
  rw [less_noneL] at hlR ⊢
  have hg6 := hg5.keepD hk6 (mD_nc h5)
  have hK6 : Keeps NoB w w6 := hK5.trans' hk6 (fun i hi e => hmD i hi e)
  obtain ⟨ma, mc, hme, _⟩ := slr_strs hmR.row
  apply wr_move; exact rfl; with_reducible (conv => enter [6, 3]; whnf)
  apply wr_extract; (iterate 3 exact rfl); with_reducible (conv => enter [6, 3]; whnf)
  apply wr_extract; (iterate 3 exact rfl); with_reducible (conv => enter [6, 3]; whnf)
  apply wr_extract; (iterate 3 exact rfl); with_reducible (conv => enter [6, 3]; whnf)
  apply wr_alloc
  focus exact rfl
  refine wr_name ?_
  intro wya hwwya
  obtain ⟨bwya, hbwya⟩ : ∃ b, b = (w6).heap.size := ⟨_, rfl⟩
  have hkwya : Keeps NoB w6 wya := by rw [hwwya]; exact (Keeps.refl NoB w6).alloc _
  have hcwya : (wya).heap[bwya]? = some (.cells ([.bool false, nilV]).toArray 41 (0, 0)) := by rw [hwwya, hbwya]; exact heap_alloc_same _ _
  rw [← hbwya]
  clear hwwya
  apply wr_alloc
  focus exact rfl
  refine wr_name ?_
  intro wyb hwwyb
  obtain ⟨bwyb, hbwyb⟩ : ∃ b, b = (wya).heap.size := ⟨_, rfl⟩
  have hkwyb : Keeps NoB wya wyb := by rw [hwwyb]; exact (Keeps.refl NoB wya).alloc _
  have hcwyb : (wyb).heap[bwyb]? = some (.cells ([.bool false, nilV]).toArray 41 (0, 0)) := by rw [hwwyb, hbwyb]; exact heap_alloc_same _ _
  rw [← hbwyb]
  clear hwwyb
  have hcawy := hkwyb.heap hcwya (fun h => h)
  have hlrwy := lt_of_heap hcwya
  refine wr_storeAll (cs := [.bool sA.1, mn]) rfl rfl rfl (by intro u hu; simp at hu; rcases hu with rfl | rfl; rfl; exact hmR.one.1) hcawy (rfl) (rfl) ?_
  refine wr_name ?_
  intro wyc hwwyc
  have hkwyc : Keeps (· = bwya) wyb wyc := by rw [hwwyc]; exact (Keeps.refl _ wyb).put _ (fun _ => rfl)
  have hcwyc : (wyc).heap[bwya]? = some (.cells ([.bool sA.1, mn]).toArray 41 (0, 0)) := by rw [hwwyc]; exact World.putObj_heap_same (lt_of_heap hcawy)
  clear hwwyc
  have hcbwy := hkwyc.heap hcwyb (fun e => by omega)
  refine wr_storeAll (cs := [.bool noneP.1, ln]) rfl rfl rfl (by intro u hu; simp at hu; rcases hu with rfl | rfl; rfl; exact hlR.one.1) hcbwy (rfl) (rfl) ?_
  refine wr_name ?_
  intro wyd hwwyd
  have hkwyd : Keeps (· = bwyb) wyc wyd := by rw [hwwyd]; exact (Keeps.refl _ wyc).put _ (fun _ => rfl)
  have hcwyd : (wyd).heap[bwyb]? = some (.cells ([.bool noneP.1, ln]).toArray 41 (0, 0)) := by rw [hwwyd]; exact World.putObj_heap_same (lt_of_heap hcbwy)
  clear hwwyd
  have hccwy := hkwyd.heap hcwyc (fun e => by omega)
  have hkkwy : Keeps NoB w6 wyd := ((hkwya.trans hkwyb).trans' hkwyc (fun i hi e => by omega)).trans' hkwyd (fun i hi e => by omega)
  have h7 := h6.keepN hkkwy
  have hg7 := hg6.keep hkkwy
  have hK7 := hK6.trans hkkwy
  have hlR7 := hlR.keep hkkwy
  rw [hme] at hcwyc hccwy
  (repeat first | (apply wr_move; exact rfl; with_reducible (conv => enter [6, 3]; whnf)) | (apply wr_assign; exact rfl; with_reducible (conv => enter [6, 3]; whnf)) | apply wr_end | apply wc_seq | apply wc_region)
  refine wr_buildSlice (vs := [S [98], S [42]]) rfl rfl (by intro v hv; simp at hv; rcases hv with rfl | rfl <;> rfl) rfl (by decide) (by decide) (by decide) ?_
  refine wr_name ?_
  intro w8 hw8
  have hk8 : Keeps NoB wyd w8 := by rw [hw8]; exact (Keeps.refl NoB wyd).alloc _
  have hc8 : w8.heap[wyd.heap.size]? = some (.cells (SL [[98], [42]]).toArray 9 (0, 0)) := by rw [hw8]; exact heap_alloc_same _ _
  clear hw8
  refine wr_call (vs := [.slice (some ⟨wyd.heap.size, 0, none⟩) 2 2]) rfl (ofO_ca [[98], [42]] _ w8 (slR_blk hc8 rfl) (by decide) (by decide)) rfl ?_
  rintro sv w9 ⟨hsv, hk9⟩
  rw [sB_of] at hsv
  have h9 := (h7.keepN hk8).keepN hk9
  have hg9 := (hg7.keep hk8).keep hk9
  have hk79 := hk8.trans hk9
  have hK9 := hK7.trans hk79
  refine wr_call (vs := [.pointer (some ⟨ab, 0, none⟩), .int .i64 3, .int .i64 1, sv]) rfl (setM_ok h9 hg9 (id := 3) (k := 1) (by decide) hsv.toR sB_fine (by decide) (fits_of (by decide) (by show (unionK eW2 1).2.length ≤ 63; rw [eU2]; decide))) rfl ?_
  rintro v wa ⟨⟨ha, mn2, ln2, rfl, _, _⟩, hka⟩
  have ha : MgAt wa 0 ab wb cb eW2 := ha
  have hga := hg9.keepD hka (mD_nc h9)
  have hKa : Keeps NoB w wa := hK9.trans' hka (fun i hi e => hmD i hi e)
  have hmoreA := heap_keepM (hk79.heap hccwy (fun h => h)) hka (mD_nc h9)
  have hlessA := heap_keepM (hk79.heap hcwyd (fun h => h)) hka (mD_nc h9)
  have hlRa := (hlR7.keep hk79).keepM hka (mD_nc h9)
  (repeat first | (apply wr_move; exact rfl; with_reducible (conv => enter [6, 3]; whnf)) | apply wr_end | apply wc_seq | apply wc_region)
  refine wr_call (vs := [.pointer (some ⟨ab, 0, none⟩), .int .i64 1]) rfl (keysM2_ca ha 1 (by decide) (by decide)) rfl ?_
  rintro kv wc ⟨hkv, hkc⟩
  obtain ⟨m, hkm⟩ := eKeys
  rw [hkm] at hkv
  obtain ⟨ka, kc, rfl, _, hkat⟩ := slr_strs (SlR.of_own hkv)
  obtain ⟨kb, ko, rfl, kcur, kt, kfr, hkb, hkr⟩ := hkat (by simp)
  have hc := ha.keepN hkc
  (repeat first | (apply wr_move; exact rfl; with_reducible (conv => enter [6, 3]; whnf)) | (apply wr_assign; exact rfl; with_reducible (conv => enter [6, 3]; whnf)) | apply wr_end | apply wc_seq | apply wc_region)
  refine wr_call (vs := [.pointer (some ⟨ab, 0, none⟩), .int .i64 1]) rfl (leanM_ca hc 1 (by decide) (by decide)) rfl ?_
  rintro lv wd ⟨hlv, hkd⟩
  rw [eU2] at hlv
  obtain ⟨ln3, rfl, hln3⟩ := hlv
  have hlv : SetR wd (leanP eU) (SetV (leanP eU).1 ln3) := ⟨ln3, rfl, hln3⟩
  obtain ⟨la3, lc3, rfl, _, _⟩ := slr_strs hln3
  have hd := hc.keepN hkd
  (repeat first | (apply wr_alloc; exact rfl))
  refine wr_storeAll (cs := [.bool (leanP eU).1, .slice la3 (leanP eU).2.length lc3]) rfl rfl rfl (by intro u hu; simp at hu; rcases hu with rfl | rfl <;> rfl) (heap_alloc_same _ _) rfl rfl ?_
  refine wr_name ?_
  intro we hwwe
  obtain ⟨bwe, hbwe⟩ : ∃ b, b = (wd).heap.size := ⟨_, rfl⟩
  have hkwe : Keeps NoB wd we := by rw [hwwe]; exact ((Keeps.refl NoB wd).alloc _).put _ (fun h => by omega)
  have hcwe : (we).heap[bwe]? = some (.cells ([.bool (leanP eU).1, .slice la3 (leanP eU).2.length lc3]).toArray 41 (0, 0)) := by rw [hwwe, hbwe]; exact World.putObj_heap_same (by simp)
  rw [← hbwe]
  clear hwwe
  have hkae := (hkc.trans hkd).trans hkwe
  have he := hd.keepN hkwe
  have hkbe := (hkd.trans hkwe).heap hkb (fun h => h)
  have hmoreE := hkae.heap hmoreA (fun h => h)
  have hlessE := hkae.heap hlessA (fun h => h)
  have hlRe := hlRa.keep hkae
  have hKe := hKa.trans hkae
  rw [show (leanP eU).1 = true from rfl] at hcwe
  rw [show (leanP eU).2.length = 0 from rfl] at hcwe
  rw [show sA.2.length = 2 from rfl] at hmoreE
  have hEm : (!(noneP).1 && decide ((noneP).2.length = 0)) = true := rfl
  (repeat first | (apply wr_move; exact rfl; with_reducible (conv => enter [6, 3]; whnf)) | apply wr_end | apply wc_seq | apply wc_region | (apply wr_fieldAddr; iterate 2 exact rfl) | (apply wr_len_slice; iterate 2 exact rfl) | (apply wr_load; (iterate 3 exact rfl); (focus repeat first | with_reducible assumption | exact heap_alloc_same _ _ | exact World.putObj_heap_same (by first | omega | (simp only [World.size_alloc, World.putObj_size, ne_eq]; omega)) | ((first | refine hAl ?_ ?_ | refine hPu ?_ ?_); focus first | omega | (simp only [World.size_alloc, World.putObj_size, ne_eq]; omega))); exact rfl; conv => enter [6, 3]; whnf) | (apply wr_cmp; (iterate 3 exact rfl); exact cmpT (by dsimp only [cmpP]; first | done | omega)) | (apply wr_pick (t := true); (iterate 2 exact rfl); with_reducible (conv => enter [6, 3]; whnf)))
  refine wr_loadAll (cs := [.bool noneP.1, ln]) rfl rfl rfl hlessE rfl ?_
  skip
  refine wr_call (vs := [SetV noneP.1 ln]) rfl (empty_cb true hEm hlRe) rfl ?_
  rintro v wf ⟨rfl, hkf⟩
  have hkbf := hkf.heap hkbe (fun h => h)
  have hcwf := hkf.heap hcwe (fun h => h)
  have hf := he.keepN hkf
  have hk0 := hkr 0 [42, 32, 49] rfl
  have hk2' := hkr 2 [98, 32, 50] rfl
  (repeat first | (apply wr_move; exact rfl; with_reducible (conv => enter [6, 3]; whnf)) | (apply wr_len_slice; iterate 2 exact rfl) | (apply wr_cmp; (iterate 3 exact rfl); exact cmp_eq _ _) | (apply wr_pick (t := true); (iterate 2 exact rfl); with_reducible (conv => enter [6, 3]; whnf)))
  refine wr_indexAddr (i := 0) rfl rfl rfl (by simp) ?_
  refine wr_load (v := S [42, 32, 49]) rfl rfl rfl hkbf hk0 ?_
  (repeat first | (apply wr_move; exact rfl; with_reducible (conv => enter [6, 3]; whnf)) | (apply wr_pick (t := true); (iterate 2 exact rfl); with_reducible (conv => enter [6, 3]; whnf)) | (apply wr_streqc; (iterate 3 exact rfl); (first | exact decide_eq_true (by with_reducible assumption) | exact decide_eq_false (by with_reducible assumption) | exact decide_eq_true rfl | exact rfl)))
  refine wr_indexAddr (i := 2) rfl rfl rfl (by simp) ?_
  refine wr_load (v := S [98, 32, 50]) rfl rfl rfl hkbf hk2' ?_
  (repeat first | (apply wr_move; exact rfl; with_reducible (conv => enter [6, 3]; whnf)) | (apply wr_fieldAddr; iterate 2 exact rfl) | (apply wr_len_slice; iterate 2 exact rfl) | (apply wr_load; (iterate 3 exact rfl); (focus repeat first | with_reducible assumption | exact heap_alloc_same _ _ | exact World.putObj_heap_same (by first | omega | (simp only [World.size_alloc, World.putObj_size, ne_eq]; omega)) | ((first | refine hAl ?_ ?_ | refine hPu ?_ ?_); focus first | omega | (simp only [World.size_alloc, World.putObj_size, ne_eq]; omega))); exact rfl; conv => enter [6, 3]; whnf) | (apply wr_cmp; (iterate 3 exact rfl); exact cmpT (by dsimp only [cmpP]; first | done | omega)) | (apply wr_pick (t := true); (iterate 2 exact rfl); with_reducible (conv => enter [6, 3]; whnf)) | (apply wr_streqc; (iterate 3 exact rfl); (first | exact decide_eq_true (by with_reducible assumption) | exact decide_eq_false (by with_reducible assumption) | exact decide_eq_true rfl | exact rfl)))
  refine wr_build (ps := [(0, .int .i64 1), (1, S [99])]) (cs := [.int .i64 1, S [99]]) rfl rfl rfl rfl ?_
  refine wr_call (vs := [.pointer (some ⟨ab, 0, none⟩), .agg #[.int .i64 1, S [99]]]) rfl (whoM_ca hf 1 [99] (by decide)) rfl ?_
  rintro v wg ⟨⟨wa', wc', rfl⟩, hkg⟩
  rw [eWho]
  have hgm := hf.keepN hkg
  (repeat first | (apply wr_move; exact rfl; with_reducible (conv => enter [6, 3]; whnf)) | (apply wr_len_slice; iterate 2 exact rfl) | (apply wr_cmp; (iterate 3 exact rfl); exact cmpT (by dsimp only [cmpP]; first | done | omega)) | (apply wr_pick (t := true); (iterate 2 exact rfl); with_reducible (conv => enter [6, 3]; whnf)))
  refine wr_call (vs := [.pointer (some ⟨ab, 0, none⟩), .int .i64 9]) rfl (dropZ_ca hgm 9 eNine) rfl ?_
  rintro v wh ⟨rfl, hkh⟩
  (repeat first | (apply wr_assign; exact rfl; with_reducible (conv => enter [6, 3]; whnf)) | apply wr_end | (apply wr_cmp; (iterate 3 exact rfl); exact cmpT (by dsimp only [cmpP]; first | done | omega)) | (apply wr_pick (t := true); (iterate 2 exact rfl); with_reducible (conv => enter [6, 3]; whnf)) | (apply wc_ret; try simp only [thenE, inBlockE, bodyQ]))
  exact leave1 (v := .bool true) rfl rfl ⟨rfl, ((hKe.trans hkf).trans hkg).trans hkh⟩
end Go.Proofs.YtajajahofkialaaGreatDoor
